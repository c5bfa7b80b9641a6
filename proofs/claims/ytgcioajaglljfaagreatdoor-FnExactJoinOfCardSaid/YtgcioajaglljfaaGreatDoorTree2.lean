import Derived.Test.YtgcioajaglljfaaGreatDoorTreePlain
import Derived.Test.YtgcioajaglljfaaGreatDoorZ30
import Derived.BigGuardPart
import Derived.WalkLawsBesides
/- Walk: the reference's l4Ok, TreeOk. -/
namespace Go.Proofs.YtgcioajaglljfaaGreatDoor
open Go.RowKit

set_option maxRecDepth 100000 in
set_option maxHeartbeats 2000000 in
theorem spec_l4Ok_any (A : Option Addr) (n c : Nat) (xs : List PFile) (w : World) (lo hi : Nat) (h : Rep w lo hi (encFiles xs) (.slice A n c)) (hh : hi ≤ w.heap.size) (ht : okTree xs) :
    Calls Tryz.prog 18 #[.slice A n c] w fun e w' => e = .returned (.bool (treeOk xs)) ∧ Below w.heap.size w w' := by
  have hl := Files.n h
  obtain ⟨hc, hm⟩ := Files.cap h
  subst hl
  have Hs := Lib.hid ht
  clear ht
  go_enter Tryz.func18, Tryz.ntmps18
  go_wp2
  go_loopw [3] (fun i wr => ∃ k : Nat, k ≤ xs.length ∧ i = .int .i64 k ∧ Hid (∀ j, j < k → treeAt' xs j = true) ∧ Below w.heap.size w wr) (fun i _ => xs.length - (intOf i).toNat)
  case atStart => exact ⟨0, Nat.zero_le _, rfl, Lib.hid (fun j hj => absurd hj (by omega)), Below.refl _ _⟩
  case round =>
    obtain ⟨k, hk, rfl, ht, hb⟩ := hrel
    have hsz := hb.size
    by_cases hkn : k < xs.length
    · have hkn' : (k : Int) < (xs.length : Int) := by omega
      obtain ⟨wo, rfl⟩ : ∃ wo : World, wo = wr := ⟨_, rfl⟩
      obtain ⟨b1, o1, x, rfl, _, hbhi, hx, A1, n1, c1, d0, d1, r1⟩ := Files.at (h.keep hb hh) hkn
      obtain ⟨sx1, sx2⟩ := Hs.out x (List.mem_of_getElem? hx)
      have Hx := Lib.hid hx
      have hho : hi ≤ wo.heap.size := Nat.le_trans hh hsz
      have hW2 := h.keep hb hh
      clear hx
      replace d0 := Later.cell d0
      replace d1 := Later.cell d1
      have ct := fun u : Later wo => spec_l1Ok_any _ _ _ x.text u.val _ _ (r1.later hho u) sx2
      have cp := fun u : Later wo => spec_l4Path_any x.path u.val sx1
      go_wp2
      refine wp_region_later_lit (by kernel_rfl) (by kernel_rfl) ?_; try simp only [List.append_eq, List.cons_append, List.nil_append]
      cases t2 : pathOk x.path
      · rw [t2] at cp
        repeat (go_big_quiet_step (((first | (go_at_call 34; with_reducible exact Calls.later_same (ct _)) | (go_at_call 33; with_reducible exact Calls.later (cp _))))))
        (refine wpQuiet_nil ?_; intro _ hw'; obtain ⟨⟨w9, hb9⟩, hw''⟩ := hw'; subst hw''; try dsimp only)
        go_wp2
        go_ret
        exact ⟨ret_bool (treeOk_false' hkn (treeAt_path Hx.out t2).2).symm, hb.trans (hb9.mono hsz)⟩
      · rw [t2] at cp
        cases t1 : textOk x.text
        · rw [t1] at ct
          repeat (go_big_quiet_step (((first | (go_at_call 34; with_reducible exact Calls.later_same (ct _)) | (go_at_call 33; with_reducible exact Calls.later (cp _))))))
          (refine wpQuiet_nil ?_; intro _ hw'; obtain ⟨⟨w9, hb9⟩, hw''⟩ := hw'; subst hw''; try dsimp only)
          go_wp2
          go_ret
          exact ⟨ret_bool (treeOk_false' hkn (treeAt_text Hx.out t1).2).symm, hb.trans (hb9.mono hsz)⟩
        · rw [t1] at ct
          by_cases t6 : 0 < k ∧ ∃ y, xs[k - 1]? = some y ∧ ltS y.path x.path = false
          · obtain ⟨hk0, y, hy, hlt⟩ := t6
            have q5 : decide (0 < k) = true := by simp; omega
            have q6 : (1 : Int) ≤ (k : Int) := by omega
            have q7 : (k : Int) - 1 < (xs.length : Int) := by omega
            obtain ⟨b3, o3, y', hb3, _, _, hy', A3, n3, c3, f0, f1, r3⟩ := Files.at hW2 (k := k - 1) (by omega)
            simp only [Option.some.injEq, Addr.mk.injEq, and_true] at hb3
            obtain ⟨rfl, rfl⟩ := hb3
            rw [hy] at hy'
            obtain rfl := Option.some.inj hy'
            replace f0 := Later.cell f0
            have hf := (treeAt_order Hx.out hk0 hy hlt).2
            have Hf := Lib.hid hf
            have hle : (Op.bytesLess x.path y.path || x.path == y.path) = true := leS hlt
            clear hy hf f1 hlt
            repeat (go_big_quiet_step (((first | (go_at_call 34; with_reducible exact Calls.later_same (ct _)) | (go_at_call 33; with_reducible exact Calls.later (cp _))))))
            (refine wpQuiet_nil ?_; intro _ hw'; obtain ⟨⟨w9, hb9⟩, hw''⟩ := hw'; subst hw''; try dsimp only)
            go_wp2
            go_ret
            exact ⟨ret_bool (treeOk_false' hkn Hf.out).symm, hb.trans (hb9.mono hsz)⟩
          · have H3 : Hid (∀ g, 0 < k → xs[k - 1]? = some g → ltS g.path x.path = true) := Lib.hid (fun g hk0 hg => by
              cases hl : ltS g.path x.path with
              | true => rfl
              | false => exact absurd ⟨hk0, g, hg, hl⟩ t6)
            clear t6
            have hcase : (decide (0 < k) = false) ∨ ((1 : Int) ≤ (k : Int) ∧ decide (0 < k) = true ∧ (k : Int) - 1 < (xs.length : Int) ∧ ∃ (y : Str), (∀ u : Later wo, u.val.cell? ⟨b1, o1 + (k - 1) * 2, none⟩ = some (.string ⟨y.toArray⟩)) ∧ (Op.bytesLess x.path y || x.path == y) = false) := by
              by_cases hk0 : 0 < k
              · right
                obtain ⟨b3, o3, y, hb3, _, _, hy, A3, n3, c3, f0, f1, r3⟩ := Files.at hW2 (k := k - 1) (by omega)
                simp only [Option.some.injEq, Addr.mk.injEq, and_true] at hb3
                obtain ⟨rfl, rfl⟩ := hb3
                exact ⟨by omega, by simpa using hk0, by omega, y.path, Later.cell f0, leS_no (H3.out y hk0 hy)⟩
              · left; simpa using hk0
            clear hW2
            rcases hcase with q5 | ⟨q6, q5, q7, y, f0, hle⟩
            all_goals
              repeat (go_big_quiet_step (((first | (go_at_call 34; with_reducible exact Calls.later_same (ct _)) | (go_at_call 33; with_reducible exact Calls.later (cp _))))))
              (refine wpQuiet_nil ?_; intro _ hw'; obtain ⟨⟨w9, hb9⟩, hw''⟩ := hw'; subst hw''; try dsimp only)
              rename World => w9
              go_wp2
              have hb4 : Below w.heap.size w w9 := hb.trans (hb9.mono hsz)
              have hs9 := hb9.size
              go_loopw [4] (fun i wr => ∃ l : Nat, l ≤ xs.length ∧ i = .int .i64 l ∧ Hid ((xs.take l).all (fun g => !below x.path g.path) = true) ∧ Below w9.heap.size w9 wr) (fun i _ => xs.length - (intOf i).toNat)
              case atStart => exact ⟨0, Nat.zero_le _, rfl, Lib.hid (by simp), Below.refl _ _⟩
              case round =>
                obtain ⟨l, hl, rfl, ht2, hb5⟩ := hrel
                have hs5 := hb5.size
                have hb6 : Below w.heap.size w wr := hb4.trans (hb5.mono hb4.size)
                by_cases hln : l < xs.length
                · have hln' : (l : Int) < (xs.length : Int) := by omega
                  obtain ⟨b3, o3, g, hb3, _, _, hg, A3, n3, c3, f0, f1, r3⟩ := Files.at (h.keep hb6 hh) (k := l) hln
                  simp only [Option.some.injEq, Addr.mk.injEq, and_true] at hb3
                  obtain ⟨rfl, rfl⟩ := hb3
                  obtain ⟨b4, o4, x', hb3', _, _, hx', A4, n4, c4, e0, e1, r4⟩ := Files.at (h.keep hb6 hh) (k := k) hkn
                  simp only [Option.some.injEq, Addr.mk.injEq, and_true] at hb3'
                  obtain ⟨rfl, rfl⟩ := hb3'
                  rw [Hx.out] at hx'
                  obtain rfl := Option.some.inj hx'
                  have sg := (Hs.out g (List.mem_of_getElem? hg)).1
                  have hcall := fun w => spec_l4In_any x.path g.path w
                  have Hg := Lib.hid hg
                  clear hg d0 d1
                  replace f0 := Later.cell f0
                  replace e0 := Later.cell e0
                  clear f1 e1 r3 r4
                  cases tb : below x.path g.path
                  · rw [tb] at hcall
                    go_wp2
                    refine wp_region_later_lit (by kernel_rfl) (by kernel_rfl) ?_; try simp only [List.append_eq, List.cons_append, List.nil_append]
                    repeat (go_big_quiet_step (((go_at_call 35; with_reducible exact Calls.later_same (hcall _)))))
                    (refine wpQuiet_nil ?_; intro _ hw'; obtain ⟨⟨w10, hb9'⟩, hw''⟩ := hw'; subst hw''; try dsimp only)
                    go_wp2
                    go_roundw
                    case rel => exact ⟨l + 1, by omega, by go_num, Lib.hid (all_take_succ Hg.out ht2.out (by simp [tb])), hb5.trans (hb9'.mono hs5)⟩
                    case measure => simp [intOf]; omega
                  · rw [tb] at hcall
                    go_wp2
                    refine wp_region_later_lit (by kernel_rfl) (by kernel_rfl) ?_; try simp only [List.append_eq, List.cons_append, List.nil_append]
                    repeat (go_big_quiet_step (((go_at_call 35; with_reducible exact Calls.later_same (hcall _)))))
                    (refine wpQuiet_nil ?_; intro _ hw'; obtain ⟨⟨w10, hb9'⟩, hw''⟩ := hw'; subst hw''; try dsimp only)
                    go_wp2
                    go_ret
                    exact ⟨ret_bool (treeOk_false' hkn (treeAt'_below Hx.out Hg.out tb)).symm, hb6.trans (hb9'.mono hb6.size)⟩
                · have ht3 := ht2.out
                  rw [List.take_of_length_le (by omega)] at ht3
                  have hyes := treeAt'_yes Hx.out t1 t2 H3.out ht3
                  have Hyes := Lib.hid hyes
                  clear hyes ht3
                  go_wp2
                  go_roundw
                  case rel => exact ⟨k + 1, by omega, by go_num, Lib.hid (fun j hj => by
                    by_cases e : j = k
                    · rw [e]; exact Hyes.out
                    · exact ht.out j (by omega)), hb6⟩
                  case measure => simp [intOf]; omega
    · obtain rfl : k = xs.length := by omega
      have hv := treeOk_all' ht.out
      have Hv := Lib.hid hv
      clear hv
      by_cases h8 : xs.length ≤ 8
      all_goals
        go_wp2
        go_ret
        exact ⟨ret_bool (by rw [Hv.out]; simp [h8]; try omega), hb⟩

end Go.Proofs.YtgcioajaglljfaaGreatDoor
