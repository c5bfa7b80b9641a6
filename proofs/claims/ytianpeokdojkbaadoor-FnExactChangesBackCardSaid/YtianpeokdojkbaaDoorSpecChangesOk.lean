/- Walk: the reference's l5Ok, ChangesOk. -/
import Derived.Test.YtianpeokdojkbaaDoorSpecChange
import Derived.Test.YtianpeokdojkbaaDoorSpecFree
import Derived.Test.YtianpeokdojkbaaDoorChangesOk
namespace Go.Proofs.YtianpeokdojkbaaDoor
open Go.RowKit

set_option maxRecDepth 100000 in
set_option maxHeartbeats 4000000 in
theorem spec_l5Ok_any (A : Option Addr) (n c : Nat) (xs : List PChange) (w : World) (lo hi : Nat) (h : Rep w lo hi (encChanges xs) (.slice A n c)) (hh : hi ≤ w.heap.size) (hz : szChanges xs ≤ 1048576) (hs : ∀ x ∈ xs, okChange x) :
    Calls Tryd.prog 36 #[.slice A n c] w fun e w' => e = .returned (.bool (changesOk xs)) ∧ Below w.heap.size w w' := by
  have hl := Changes.n h
  obtain ⟨hc, hm⟩ := Changes.cap h
  subst hl
  have Hsm := Lib.hid (small_changes hz)
  have Hs := Lib.hid hs
  clear hs
  obtain ⟨ok, hok⟩ : ∃ ok, ok = changesOk xs := ⟨_, rfl⟩
  rw [← hok]
  have Hok := Lib.hid hok
  clear hok
  go_enter Tryd.func36, Tryd.ntmps36
  go_wp2
  go_loopw [3] (fun i wr => ∃ k : Nat, k ≤ xs.length ∧ i = .int .i64 k ∧ Hid (okTo xs k) ∧ Below w.heap.size w wr) (fun i _ => xs.length - (intOf i).toNat)
  case atStart => exact ⟨0, Nat.zero_le _, rfl, Lib.hid (okTo_zero xs), Below.refl _ _⟩
  case round =>
    obtain ⟨k, hk, rfl, ht, hb⟩ := hrel
    have hsz := hb.size
    by_cases hkn : k < xs.length
    · have hkn' : (k : Int) < (xs.length : Int) := by omega
      obtain ⟨wo, rfl⟩ : ∃ wo : World, wo = wr := ⟨_, rfl⟩
      obtain ⟨b1, o1, x, rfl, _, hbhi, hx, A3, n3, c3, A4, n4, c4, d0, d1, d2, d3, r3, d4, r4⟩ := Changes.at (h.keep hb hh) hkn
      have hmem := List.mem_of_getElem? hx
      have hsx := Hsm.out x hmem
      have hox := Hs.out x hmem
      have hho : hi ≤ wo.heap.size := Nat.le_trans hh hsz
      have hW2 := h.keep hb hh
      have hnext := okTo_next hx ht.out
      replace d0 := Later.cell d0
      replace d1 := Later.cell d1
      replace d2 := Later.cell d2
      replace d3 := Later.cell d3
      replace d4 := Later.cell d4
      have c1 := fun u : Later wo => spec_l5One_any x A3 A4 n3 c3 n4 c4 u.val lo hi (r3.later hho u) (r4.later hho u) (Nat.le_trans hho u.below.size) hsx.1 hsx.2 hox
      have cf1 := fun u : Later wo => spec_l5Free_any (some ⟨b1, o1, none⟩) c k xs x.path u.val lo hi (hW2.later hho u) hk
      have cf2 := fun u : Later wo => spec_l5Free_any (some ⟨b1, o1, none⟩) c k xs x.dest u.val lo hi (hW2.later hho u) hk
      have hst : okStep xs k x = (changeOk x && (freeP (xs.take k) x.path && (x.dest.isEmpty || freeP (xs.take k) x.dest))) := rfl
      obtain ⟨v1, hv1⟩ : ∃ v, v = changeOk x := ⟨_, rfl⟩
      obtain ⟨f1, hf1⟩ : ∃ v, v = freeP (xs.take k) x.path := ⟨_, rfl⟩
      obtain ⟨f2, hf2⟩ : ∃ v, v = freeP (xs.take k) x.dest := ⟨_, rfl⟩
      rw [← hv1, ← hf1, ← hf2] at hst
      simp only [← hv1] at c1
      simp only [← hf1] at cf1
      simp only [← hf2] at cf2
      obtain ⟨st, hst2⟩ : ∃ st, st = okStep xs k x := ⟨_, rfl⟩
      rw [← hst2] at hst hnext
      have k0 : (0 : Int) ≤ (k : Int) := by omega
      have k1 : (k : Int) ≤ (xs.length : Int) := by omega
      have k2 : (k : Int) ≤ (c : Int) := by omega
      clear hx hmem hsx hox hW2 r3 r4 hv1 hf1 hf2 hst2
      have Hnext := Lib.hid hnext
      have Hst := Lib.hid hst
      clear hnext hst
      go_wp2
      refine wp_region_later_lit (by kernel_rfl) (by kernel_rfl) ?_; try simp only [List.append_eq, List.cons_append, List.nil_append]
      cases v1
      · have Hno := Lib.hid (okTo_not (fun h9 => by have := Hnext.out.2 h9; rw [Hst.out] at this; simp at this))
        repeat (go_big_quiet_step (((first | (go_at_call 58; with_reducible exact Calls.later (c1 _)) | (go_at_call 59; first | with_reducible exact Calls.later_same (cf1 _) | with_reducible exact Calls.later_same (cf2 _))))))
        (refine wpQuiet_nil ?_; intro _ hw'; obtain ⟨⟨w9, hb9⟩, hw''⟩ := hw'; subst hw''; try dsimp only)
        go_wp2
        go_ret
        exact ⟨ret_bool (by rw [Hok.out, Hno.out]), hb.trans (hb9.mono hsz)⟩
      · cases f1
        · have Hno := Lib.hid (okTo_not (fun h9 => by have := Hnext.out.2 h9; rw [Hst.out] at this; simp at this))
          repeat (go_big_quiet_step (((first | (go_at_call 58; with_reducible exact Calls.later (c1 _)) | (go_at_call 59; first | with_reducible exact Calls.later_same (cf1 _) | with_reducible exact Calls.later_same (cf2 _))))))
          (refine wpQuiet_nil ?_; intro _ hw'; obtain ⟨⟨w9, hb9⟩, hw''⟩ := hw'; subst hw''; try dsimp only)
          go_wp2
          go_ret
          exact ⟨ret_bool (by rw [Hok.out, Hno.out]), hb.trans (hb9.mono hsz)⟩
        · cases e0 : x.dest.isEmpty
          · cases f2
            · have Hno := Lib.hid (okTo_not (fun h9 => by have := Hnext.out.2 h9; rw [Hst.out, e0] at this; simp at this))
              repeat (go_big_quiet_step (((first | (go_at_call 58; with_reducible exact Calls.later (c1 _)) | (go_at_call 59; first | with_reducible exact Calls.later_same (cf1 _) | with_reducible exact Calls.later_same (cf2 _))))))
              (refine wpQuiet_nil ?_; intro _ hw'; obtain ⟨⟨w9, hb9⟩, hw''⟩ := hw'; subst hw''; try dsimp only)
              go_wp2
              go_ret
              exact ⟨ret_bool (by rw [Hok.out, Hno.out]), hb.trans (hb9.mono hsz)⟩
            · have Hyes := Lib.hid (Hnext.out.1 (by rw [Hst.out, e0]; rfl))
              repeat (go_big_quiet_step (((first | (go_at_call 58; with_reducible exact Calls.later (c1 _)) | (go_at_call 59; first | with_reducible exact Calls.later_same (cf1 _) | with_reducible exact Calls.later_same (cf2 _))))))
              (refine wpQuiet_nil ?_; intro _ hw'; obtain ⟨⟨w9, hb9⟩, hw''⟩ := hw'; subst hw''; try dsimp only)
              go_wp2
              go_roundw
              case rel => exact ⟨k + 1, by omega, by go_num, Hyes, hb.trans (hb9.mono hsz)⟩
              case measure => first | (simp [intOf]; done) | (simp [intOf]; omega)
          · have Hyes := Lib.hid (Hnext.out.1 (by rw [Hst.out, e0]; rfl))
            repeat (go_big_quiet_step (((first | (go_at_call 58; with_reducible exact Calls.later (c1 _)) | (go_at_call 59; first | with_reducible exact Calls.later_same (cf1 _) | with_reducible exact Calls.later_same (cf2 _))))))
            (refine wpQuiet_nil ?_; intro _ hw'; obtain ⟨⟨w9, hb9⟩, hw''⟩ := hw'; subst hw''; try dsimp only)
            go_wp2
            go_roundw
            case rel => exact ⟨k + 1, by omega, by go_num, Hyes, hb.trans (hb9.mono hsz)⟩
            case measure => first | (simp [intOf]; done) | (simp [intOf]; omega)
    · obtain rfl : k = xs.length := by omega
      have hv := okTo_end ht.out
      have Hv := Lib.hid hv
      clear hv
      by_cases h16 : xs.length ≤ 16
      all_goals
        go_wp2
        go_ret
        exact ⟨ret_bool (by rw [Hok.out, Hv.out]; simp [h16]; try omega), hb⟩

end Go.Proofs.YtianpeokdojkbaaDoor
