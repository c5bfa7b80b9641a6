/- Several of my texts in one: Tree, Tree2. -/
import Derived.Test.YtmickenajhppoaaGreatDoorTreePlain
import Derived.Test.YtmickenajhppoaaGreatDoorZ22
import Derived.BigGuardPart
import Derived.WalkLawsBesides
/- Walk: the program's TreeOk. -/
namespace Go.Proofs.YtmickenajhppoaaGreatDoor
open Go.RowKit

/-- 't[:i]' of a slice of files. -/
theorem Tryz.headFiles (A : Option Addr) (n c i : Nat) (hij : i ≤ c) :
    (∀ W, (Instr.sliceAt 26 (.slice A n c) none (some (.int .i64 i)) none).run Tryz.prog W = .ok (.slice A i c) W) ∧
    (∀ W, (Instr.slice 26 (.slice A n c) none (some (.int .i64 i)) none).run Tryz.prog W = .ok (.slice A i c) W) := by
  have ht : Tryz.prog.underlying 26 = some (.slice (Tryz.prog.elem 26)) := by kernel_rfl
  obtain ⟨ii, hi0, hi1, hi2, hi3⟩ := info_parts Tryz.infoFile
  have he : Tryz.prog.elem 26 = 48 := by kernel_rfl
  have hsz : ∀ W, (sizeOf 48).run Tryz.prog W = .ok ii.size W := fun W => by simp [sizeOf, typeInfo, hi0]
  have e0 : (A.map fun a => a.add 0) = A := by cases A <;> simp [Addr.add]
  have h : ∀ W, (Instr.slice 26 (.slice A n c) none (some (.int .i64 i)) none).run Tryz.prog W = .ok (.slice A i c) W := by
    intro W
    rw [run_slice_h (h0 := by omega) (h2 := by omega) (ht := ht), he, hsz, hi2]
    simp [Result.andThen, sliced, e0]
  exact ⟨fun W => by rw [run_sliceAt_slice (h := ht)]; exact h W, h⟩

set_option maxRecDepth 100000 in
set_option maxHeartbeats 2000000 in
theorem impl_TreeOk_any (A : Option Addr) (n c : Nat) (xs : List PFile) (w : World) (lo hi : Nat) (h : Rep w lo hi (encFiles xs) (.slice A n c)) (hh : hi ≤ w.heap.size) (ht : okTree xs) :
    Calls Tryz.prog 23 #[.slice A n c] w fun e w' => e = .returned (.bool (treeOk xs)) ∧ Below w.heap.size w w' := by
  have hl := Files.n h
  obtain ⟨hc, hm⟩ := Files.cap h
  subst hl
  have Hs := Lib.hid ht
  clear ht
  by_cases h8 : xs.length ≤ 8
  · go_enter Tryz.func23, Tryz.ntmps23
    go_wp2
    go_loopw [12] (fun i wr => ∃ k : Nat, k ≤ xs.length ∧ i = .int .i64 k ∧ Hid (∀ j, j < k → treeAt xs j = true) ∧ Below w.heap.size w wr) (fun i _ => xs.length - (intOf i).toNat)
    case atStart => exact ⟨0, Nat.zero_le _, rfl, Lib.hid (fun j hj => absurd hj (by omega)), Below.refl _ _⟩
    case round =>
      obtain ⟨k, hk, rfl, ht, hb⟩ := hrel
      have hsz := hb.size
      by_cases hkn : k < xs.length
      · have hkn' : (k : Int) < (xs.length : Int) := by omega
        obtain ⟨wo, rfl⟩ : ∃ wo : World, wo = wr := ⟨_, rfl⟩
        obtain ⟨b1, o1, x, rfl, _, hbhi, hx, A1, n1, c1, d0, d1, r1⟩ := Files.at (h.keep hb hh) hkn
        obtain ⟨sx1, sx2⟩ := Hs.out x (List.mem_of_getElem? hx)
        have Hx := Lib.hid hx
        clear hx sx2
        go_wp2
        refine name_world ?_
        intro W hW
        have hbr : Below wo.heap.size wo W := by rw [hW]; exact (Below.refl _ _).alloc (Nat.le_refl _) _
        have hbW : Below w.heap.size w W := hb.trans (hbr.mono hsz)
        have p0 := Later.cell (w := W) (a := ⟨wo.heap.size, 0, none⟩) (v := .string ⟨x.path.toArray⟩) (by rw [hW]; simp [go_sem])
        have p1 := Later.cell (w := W) (a := ⟨wo.heap.size, 1, none⟩) (v := .slice A1 n1 c1) (by rw [hW]; simp [go_sem])
        have hhW : hi ≤ W.heap.size := Nat.le_trans hh hbW.size
        have R1 := r1.keep hbr (Nat.le_trans hh hsz)
        have hW2 := h.keep hbW hh
        have hoW : wo.heap.size < W.heap.size := by rw [hW]; simp
        have ct := fun u : Later W => impl_TextOk_any _ _ _ x.text u.val _ _ (R1.later hhW u)
        have cp := fun u : Later W => impl_PathOk_any x.path u.val sx1
        clear hW d0 d1 r1
        refine wp_region_later_lit (by kernel_rfl) (by kernel_rfl) ?_; try simp only [List.append_eq, List.cons_append, List.nil_append]
        cases t1 : textOk x.text
        · rw [t1] at ct
          repeat (go_big_quiet_step (((first | (go_at_call 51; with_reducible exact Calls.later_same (ct _)) | (go_at_call 52; with_reducible exact Calls.later (cp _))))))
          (refine wpQuiet_nil ?_; intro _ hw'; obtain ⟨⟨w9, hb9⟩, hw''⟩ := hw'; subst hw''; try dsimp only)
          go_wp2
          go_ret
          exact ⟨ret_bool (treeOk_false hkn (treeAt_text Hx.out t1).1).symm, hbW.trans (hb9.mono hbW.size)⟩
        · rw [t1] at ct
          cases t2 : pathOk x.path
          · rw [t2] at cp
            repeat (go_big_quiet_step (((first | (go_at_call 51; with_reducible exact Calls.later_same (ct _)) | (go_at_call 52; with_reducible exact Calls.later (cp _))))))
            (refine wpQuiet_nil ?_; intro _ hw'; obtain ⟨⟨w9, hb9⟩, hw''⟩ := hw'; subst hw''; try dsimp only)
            go_wp2
            go_ret
            exact ⟨ret_bool (treeOk_false hkn (treeAt_path Hx.out t2).1).symm, hbW.trans (hb9.mono hbW.size)⟩
          · rw [t2] at cp
            have hhead := Tryz.headFiles (some ⟨b1, o1, none⟩) xs.length c k (by omega)
            by_cases t6 : 0 < k ∧ ∃ y, xs[k - 1]? = some y ∧ ltS y.path x.path = false
            · obtain ⟨hk0, y, hy, hlt⟩ := t6
              have q5 : decide (0 < k) = true := by simp; omega
              have q6 : (1 : Int) ≤ (k : Int) := by omega
              have q7 : (k : Int) - 1 < (xs.length : Int) := by omega
              obtain ⟨b3, o3, y', hb3, _, _, hy', A3, n3, c3, f0, f1, r3⟩ := Files.at hW2 (k := k - 1) (by omega)
              simp only [Option.some.injEq, Addr.mk.injEq, and_true] at hb3
              obtain ⟨rfl, rfl⟩ := hb3
              rw [hy] at hy'
              obtain rfl := Option.some.inj hy'
              replace f0 := Later.cell f0
              have hf := (treeAt_order Hx.out hk0 hy hlt).1
              have Hf := Lib.hid hf
              unfold ltS at hlt
              clear hy hf hhead f1
              repeat (go_big_quiet_step (((first | (go_at_call 51; with_reducible exact Calls.later_same (ct _)) | (go_at_call 52; with_reducible exact Calls.later (cp _))))))
              (refine wpQuiet_nil ?_; intro _ hw'; obtain ⟨⟨w9, hb9⟩, hw''⟩ := hw'; subst hw''; try dsimp only)
              go_wp2
              go_ret
              exact ⟨ret_bool (treeOk_false hkn Hf.out).symm, hbW.trans (hb9.mono hbW.size)⟩
            · have H3 : Hid (∀ g, 0 < k → xs[k - 1]? = some g → ltS g.path x.path = true) := Lib.hid (fun g hk0 hg => by
                cases hl : ltS g.path x.path with
                | true => rfl
                | false => exact absurd ⟨hk0, g, hg, hl⟩ t6)
              clear t6
              have hcase : (decide (0 < k) = false) ∨ ((1 : Int) ≤ (k : Int) ∧ decide (0 < k) = true ∧ (k : Int) - 1 < (xs.length : Int) ∧ ∃ (y : Str), (∀ u : Later W, u.val.cell? ⟨b1, o1 + (k - 1) * 2, none⟩ = some (.string ⟨y.toArray⟩)) ∧ Op.bytesLess y x.path = true) := by
                by_cases hk0 : 0 < k
                · right
                  obtain ⟨b3, o3, y, hb3, _, _, hy, A3, n3, c3, f0, f1, r3⟩ := Files.at hW2 (k := k - 1) (by omega)
                  simp only [Option.some.injEq, Addr.mk.injEq, and_true] at hb3
                  obtain ⟨rfl, rfl⟩ := hb3
                  exact ⟨by omega, by simpa using hk0, by omega, y.path, Later.cell f0, H3.out y hk0 hy⟩
                · left; simpa using hk0
              clear hW2
              rcases hcase with q5 | ⟨q6, q5, q7, y, f0, hlt⟩
              all_goals
                repeat (go_big_quiet_step (((first | (go_at_call 51; with_reducible exact Calls.later_same (ct _)) | (go_at_call 52; with_reducible exact Calls.later (cp _))))))
                (refine wpQuiet_nil ?_; intro _ hw'; obtain ⟨⟨w9, hb9⟩, hw''⟩ := hw'; subst hw''; try dsimp only)
                rename World => w9
                go_wp2
                have hb4 : Below w.heap.size w w9 := hbW.trans (hb9.mono hbW.size)
                have hs9 := hb9.size
                have pf : w9.cell? ⟨wo.heap.size, 0, none⟩ = some (.string ⟨x.path.toArray⟩) := p0 ⟨w9, hb9⟩
                clear p0 p1
                go_loopw [46] (fun i wr => ∃ l : Nat, l ≤ k ∧ i = .int .i64 l ∧ Hid ((xs.take l).all (fun g => !below g.path x.path) = true) ∧ Below w9.heap.size w9 wr) (fun i _ => k - (intOf i).toNat)
                case atStart => exact ⟨0, Nat.zero_le _, rfl, Lib.hid (by simp), Below.refl _ _⟩
                case round =>
                  obtain ⟨l, hl, rfl, ht2, hb5⟩ := hrel
                  have hs5 := hb5.size
                  have hb6 : Below w.heap.size w wr := hb4.trans (hb5.mono hb4.size)
                  by_cases hln : l < k
                  · have hln' : (l : Int) < (k : Int) := by omega
                    obtain ⟨b3, o3, g, hb3, _, _, hg, A3, n3, c3, f0, f1, r3⟩ := Files.at (h.keep hb6 hh) (k := l) (by omega)
                    simp only [Option.some.injEq, Addr.mk.injEq, and_true] at hb3
                    obtain ⟨rfl, rfl⟩ := hb3
                    have sg := (Hs.out g (List.mem_of_getElem? hg)).1
                    have pf' : wr.cell? ⟨wo.heap.size, 0, none⟩ = some (.string ⟨x.path.toArray⟩) := (hb5.cell (by simp; omega)).trans pf
                    have pf2 : ∀ o, (wr.alloc o).cell? ⟨wo.heap.size, 0, none⟩ = some (.string ⟨x.path.toArray⟩) := fun o => by
                      rw [World.cell?_alloc_old _ _ _ (by simp; omega)]
                      exact pf'
                    have hin : pathIn g.path x.path = below g.path x.path := by
                      have := (treeAt_parts hg (ht.out l hln)).2.1
                      unfold pathIn
                      rw [this, t2]; rfl
                    have hcall := fun w => impl_PathIn_any g.path x.path w sg sx1
                    rw [hin] at hcall
                    have Hg := Lib.hid hg
                    clear hg hin pf
                    cases tb : below g.path x.path
                    · rw [tb] at hcall
                      go_wp2_with fail
                      refine Calls.mono (hcall _) ?_
                      rintro e w7 ⟨rfl, hb7⟩
                      have hb8 : Below w9.heap.size w9 w7 := (hb5.alloc hs5 _).trans (hb7.mono (by simp; omega))
                      go_wp2
                      go_roundw
                      case rel => exact ⟨l + 1, by omega, by go_num, Lib.hid (all_take_succ Hg.out ht2.out (by simp [tb])), hb8⟩
                      case measure => simp [intOf]; omega
                    · rw [tb] at hcall
                      go_wp2_with fail
                      refine Calls.mono (hcall _) ?_
                      rintro e w7 ⟨rfl, hb7⟩
                      have hb8 : Below w9.heap.size w9 w7 := (hb5.alloc hs5 _).trans (hb7.mono (by simp; omega))
                      go_wp2
                      go_ret
                      exact ⟨ret_bool (treeOk_false hkn (treeAt_below Hx.out hln Hg.out tb)).symm, hb4.trans (hb8.mono hb4.size)⟩
                  · obtain rfl : l = k := by omega
                    have hyes := treeAt_yes Hx.out t1 t2 H3.out ht2.out
                    have Hyes := Lib.hid hyes
                    clear hyes
                    go_wp2
                    go_roundw
                    case rel => exact ⟨l + 1, by omega, by go_num, Lib.hid (fun j hj => by
                      by_cases e : j = l
                      · rw [e]; exact Hyes.out
                      · exact ht.out j (by omega)), hb6⟩
                    case measure => simp [intOf]; omega
      · go_wp2
        go_ret
        obtain rfl : k = xs.length := by omega
        exact ⟨ret_bool (by rw [treeOk_all ht.out]; simp [h8]), hb⟩
  · go_enter Tryz.func23, Tryz.ntmps23
    go_wp2
    go_ret
    exact ⟨ret_bool (by simp [treeOk]; omega), Below.refl _ _⟩
end Go.Proofs.YtmickenajhppoaaGreatDoor

/- Walk: the reference's l4Ok, TreeOk. -/
namespace Go.Proofs.YtmickenajhppoaaGreatDoor
open Go.RowKit

set_option maxRecDepth 100000 in
set_option maxHeartbeats 2000000 in
theorem spec_l4Ok_any (A : Option Addr) (n c : Nat) (xs : List PFile) (w : World) (lo hi : Nat) (h : Rep w lo hi (encFiles xs) (.slice A n c)) (hh : hi ≤ w.heap.size) (ht : okTree xs) :
    Calls Tryz.prog 17 #[.slice A n c] w fun e w' => e = .returned (.bool (treeOk xs)) ∧ Below w.heap.size w w' := by
  have hl := Files.n h
  obtain ⟨hc, hm⟩ := Files.cap h
  subst hl
  have Hs := Lib.hid ht
  clear ht
  go_enter Tryz.func17, Tryz.ntmps17
  go_wp2
  go_loopw [3] (fun i wr => ∃ k : Nat, k ≤ xs.length ∧ i = .int .i64 k ∧ Hid (∀ j, j < k → treeAt' xs j = true) ∧ Below w.heap.size w wr) (fun i _ => xs.length - (intOf i).toNat)
  case atStart => exact ⟨0, Nat.zero_le _, rfl, Lib.hid (fun j hj => absurd hj (by omega)), Below.refl _ _⟩
  case round =>
    obtain ⟨k, hk, rfl, ht, hb⟩ := hrel
    have hsz := hb.size
    by_cases hkn : k < xs.length
    · have hkn' : (k : Int) < (xs.length : Int) := by omega
      obtain ⟨wo, rfl⟩ : ∃ wo : World, wo = wr := ⟨_, rfl⟩
      obtain ⟨b1, o1, x, rfl, _, hbhi, hx, A1, n1, c1, d0, d1, r1⟩ := Files.at (h.keep hb hh) hkn
      obtain ⟨sx1, sx2⟩ := Hs.out x (List.mem_of_getElem? hx)
      have Hx := Lib.hid hx
      have hho : hi ≤ wo.heap.size := Nat.le_trans hh hsz
      have hW2 := h.keep hb hh
      clear hx
      replace d0 := Later.cell d0
      replace d1 := Later.cell d1
      have ct := fun u : Later wo => spec_l1Ok_any _ _ _ x.text u.val _ _ (r1.later hho u) sx2
      have cp := fun u : Later wo => spec_l4Path_any x.path u.val sx1
      go_wp2
      refine wp_region_later_lit (by kernel_rfl) (by kernel_rfl) ?_; try simp only [List.append_eq, List.cons_append, List.nil_append]
      cases t2 : pathOk x.path
      · rw [t2] at cp
        repeat (go_big_quiet_step (((first | (go_at_call 41; with_reducible exact Calls.later_same (ct _)) | (go_at_call 40; with_reducible exact Calls.later (cp _))))))
        (refine wpQuiet_nil ?_; intro _ hw'; obtain ⟨⟨w9, hb9⟩, hw''⟩ := hw'; subst hw''; try dsimp only)
        go_wp2
        go_ret
        exact ⟨ret_bool (treeOk_false' hkn (treeAt_path Hx.out t2).2).symm, hb.trans (hb9.mono hsz)⟩
      · rw [t2] at cp
        cases t1 : textOk x.text
        · rw [t1] at ct
          repeat (go_big_quiet_step (((first | (go_at_call 41; with_reducible exact Calls.later_same (ct _)) | (go_at_call 40; with_reducible exact Calls.later (cp _))))))
          (refine wpQuiet_nil ?_; intro _ hw'; obtain ⟨⟨w9, hb9⟩, hw''⟩ := hw'; subst hw''; try dsimp only)
          go_wp2
          go_ret
          exact ⟨ret_bool (treeOk_false' hkn (treeAt_text Hx.out t1).2).symm, hb.trans (hb9.mono hsz)⟩
        · rw [t1] at ct
          by_cases t6 : 0 < k ∧ ∃ y, xs[k - 1]? = some y ∧ ltS y.path x.path = false
          · obtain ⟨hk0, y, hy, hlt⟩ := t6
            have q5 : decide (0 < k) = true := by simp; omega
            have q6 : (1 : Int) ≤ (k : Int) := by omega
            have q7 : (k : Int) - 1 < (xs.length : Int) := by omega
            obtain ⟨b3, o3, y', hb3, _, _, hy', A3, n3, c3, f0, f1, r3⟩ := Files.at hW2 (k := k - 1) (by omega)
            simp only [Option.some.injEq, Addr.mk.injEq, and_true] at hb3
            obtain ⟨rfl, rfl⟩ := hb3
            rw [hy] at hy'
            obtain rfl := Option.some.inj hy'
            replace f0 := Later.cell f0
            have hf := (treeAt_order Hx.out hk0 hy hlt).2
            have Hf := Lib.hid hf
            have hle : (Op.bytesLess x.path y.path || x.path == y.path) = true := leS hlt
            clear hy hf f1 hlt
            repeat (go_big_quiet_step (((first | (go_at_call 41; with_reducible exact Calls.later_same (ct _)) | (go_at_call 40; with_reducible exact Calls.later (cp _))))))
            (refine wpQuiet_nil ?_; intro _ hw'; obtain ⟨⟨w9, hb9⟩, hw''⟩ := hw'; subst hw''; try dsimp only)
            go_wp2
            go_ret
            exact ⟨ret_bool (treeOk_false' hkn Hf.out).symm, hb.trans (hb9.mono hsz)⟩
          · have H3 : Hid (∀ g, 0 < k → xs[k - 1]? = some g → ltS g.path x.path = true) := Lib.hid (fun g hk0 hg => by
              cases hl : ltS g.path x.path with
              | true => rfl
              | false => exact absurd ⟨hk0, g, hg, hl⟩ t6)
            clear t6
            have hcase : (decide (0 < k) = false) ∨ ((1 : Int) ≤ (k : Int) ∧ decide (0 < k) = true ∧ (k : Int) - 1 < (xs.length : Int) ∧ ∃ (y : Str), (∀ u : Later wo, u.val.cell? ⟨b1, o1 + (k - 1) * 2, none⟩ = some (.string ⟨y.toArray⟩)) ∧ (Op.bytesLess x.path y || x.path == y) = false) := by
              by_cases hk0 : 0 < k
              · right
                obtain ⟨b3, o3, y, hb3, _, _, hy, A3, n3, c3, f0, f1, r3⟩ := Files.at hW2 (k := k - 1) (by omega)
                simp only [Option.some.injEq, Addr.mk.injEq, and_true] at hb3
                obtain ⟨rfl, rfl⟩ := hb3
                exact ⟨by omega, by simpa using hk0, by omega, y.path, Later.cell f0, leS_no (H3.out y hk0 hy)⟩
              · left; simpa using hk0
            clear hW2
            rcases hcase with q5 | ⟨q6, q5, q7, y, f0, hle⟩
            all_goals
              repeat (go_big_quiet_step (((first | (go_at_call 41; with_reducible exact Calls.later_same (ct _)) | (go_at_call 40; with_reducible exact Calls.later (cp _))))))
              (refine wpQuiet_nil ?_; intro _ hw'; obtain ⟨⟨w9, hb9⟩, hw''⟩ := hw'; subst hw''; try dsimp only)
              rename World => w9
              go_wp2
              have hb4 : Below w.heap.size w w9 := hb.trans (hb9.mono hsz)
              have hs9 := hb9.size
              go_loopw [4] (fun i wr => ∃ l : Nat, l ≤ xs.length ∧ i = .int .i64 l ∧ Hid ((xs.take l).all (fun g => !below x.path g.path) = true) ∧ Below w9.heap.size w9 wr) (fun i _ => xs.length - (intOf i).toNat)
              case atStart => exact ⟨0, Nat.zero_le _, rfl, Lib.hid (by simp), Below.refl _ _⟩
              case round =>
                obtain ⟨l, hl, rfl, ht2, hb5⟩ := hrel
                have hs5 := hb5.size
                have hb6 : Below w.heap.size w wr := hb4.trans (hb5.mono hb4.size)
                by_cases hln : l < xs.length
                · have hln' : (l : Int) < (xs.length : Int) := by omega
                  obtain ⟨b3, o3, g, hb3, _, _, hg, A3, n3, c3, f0, f1, r3⟩ := Files.at (h.keep hb6 hh) (k := l) hln
                  simp only [Option.some.injEq, Addr.mk.injEq, and_true] at hb3
                  obtain ⟨rfl, rfl⟩ := hb3
                  obtain ⟨b4, o4, x', hb3', _, _, hx', A4, n4, c4, e0, e1, r4⟩ := Files.at (h.keep hb6 hh) (k := k) hkn
                  simp only [Option.some.injEq, Addr.mk.injEq, and_true] at hb3'
                  obtain ⟨rfl, rfl⟩ := hb3'
                  rw [Hx.out] at hx'
                  obtain rfl := Option.some.inj hx'
                  have sg := (Hs.out g (List.mem_of_getElem? hg)).1
                  have hcall := fun w => spec_l4In_any x.path g.path w
                  have Hg := Lib.hid hg
                  clear hg d0 d1
                  replace f0 := Later.cell f0
                  replace e0 := Later.cell e0
                  clear f1 e1 r3 r4
                  cases tb : below x.path g.path
                  · rw [tb] at hcall
                    go_wp2
                    refine wp_region_later_lit (by kernel_rfl) (by kernel_rfl) ?_; try simp only [List.append_eq, List.cons_append, List.nil_append]
                    repeat (go_big_quiet_step (((go_at_call 42; with_reducible exact Calls.later_same (hcall _)))))
                    (refine wpQuiet_nil ?_; intro _ hw'; obtain ⟨⟨w10, hb9'⟩, hw''⟩ := hw'; subst hw''; try dsimp only)
                    go_wp2
                    go_roundw
                    case rel => exact ⟨l + 1, by omega, by go_num, Lib.hid (all_take_succ Hg.out ht2.out (by simp [tb])), hb5.trans (hb9'.mono hs5)⟩
                    case measure => simp [intOf]; omega
                  · rw [tb] at hcall
                    go_wp2
                    refine wp_region_later_lit (by kernel_rfl) (by kernel_rfl) ?_; try simp only [List.append_eq, List.cons_append, List.nil_append]
                    repeat (go_big_quiet_step (((go_at_call 42; with_reducible exact Calls.later_same (hcall _)))))
                    (refine wpQuiet_nil ?_; intro _ hw'; obtain ⟨⟨w10, hb9'⟩, hw''⟩ := hw'; subst hw''; try dsimp only)
                    go_wp2
                    go_ret
                    exact ⟨ret_bool (treeOk_false' hkn (treeAt'_below Hx.out Hg.out tb)).symm, hb6.trans (hb9'.mono hb6.size)⟩
                · have ht3 := ht2.out
                  rw [List.take_of_length_le (by omega)] at ht3
                  have hyes := treeAt'_yes Hx.out t1 t2 H3.out ht3
                  have Hyes := Lib.hid hyes
                  clear hyes ht3
                  go_wp2
                  go_roundw
                  case rel => exact ⟨k + 1, by omega, by go_num, Lib.hid (fun j hj => by
                    by_cases e : j = k
                    · rw [e]; exact Hyes.out
                    · exact ht.out j (by omega)), hb6⟩
                  case measure => simp [intOf]; omega
    · obtain rfl : k = xs.length := by omega
      have hv := treeOk_all' ht.out
      have Hv := Lib.hid hv
      clear hv
      by_cases h8 : xs.length ≤ 8
      all_goals
        go_wp2
        go_ret
        exact ⟨ret_bool (by rw [Hv.out]; simp [h8]; try omega), hb⟩

end Go.Proofs.YtmickenajhppoaaGreatDoor
