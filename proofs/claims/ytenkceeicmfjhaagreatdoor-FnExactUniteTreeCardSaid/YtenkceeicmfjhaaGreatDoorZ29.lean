/- Several of my texts in one: Repo1, Tree2. -/
import Derived.Test.YtenkceeicmfjhaaGreatDoorZ28
import Derived.Test.YtenkceeicmfjhaaGreatDoorZ12
import Derived.Test.YtenkceeicmfjhaaGreatDoorZ24
import Derived.BigGuardPart
import Derived.WalkLawsBesides
/- Walk: the program's RepoOk. -/
namespace Go.Proofs.YtenkceeicmfjhaaGreatDoor
open Go.RowKit

set_option maxRecDepth 100000 in
set_option maxHeartbeats 4000000 in
theorem impl_RepoOk_any (r : PRepo) (A0 A1 : Option Addr) (n0 c0 n1 c1 : Nat) (w : World) (lo hi : Nat) (h0 : Rep w lo hi (encCommits r.commits) (.slice A0 n0 c0)) (h1 : Rep w lo hi (encHeads r.heads) (.slice A1 n1 c1)) (hh : hi ≤ w.heap.size) (hr : okRepoS r) :
    Calls Tryz.prog 42 #[.agg #[.slice A0 n0 c0, .slice A1 n1 c1]] w fun e w' => e = .returned (.bool (repoOk r)) ∧ Below w.heap.size w w' := by
  obtain ⟨rn0, rn1, rc, rh⟩ := hr
  have hl0 := Commits.n h0
  have hl1 := Heads.n h1
  obtain ⟨hc0, hm0⟩ := Commits.cap h0
  subst hl0 hl1
  obtain ⟨xs, hs⟩ := r
  dsimp only at *
  have Hs := Lib.hid rc
  have Hh := Lib.hid rh
  clear rc rh
  by_cases h16 : xs.length ≤ 16
  · go_enter Tryz.func42, Tryz.ntmps42
    go_wp2
    refine name_world ?_
    intro W0 hW0
    have hb0 : Below w.heap.size w W0 := by rw [hW0]; exact (Below.refl _ _).alloc (Nat.le_refl _) _
    have q0 : W0.cell? ⟨w.heap.size, 0, none⟩ = some (.slice A0 xs.length c0) := by rw [hW0]; simp [go_sem]
    have q1 : W0.cell? ⟨w.heap.size, 1, none⟩ = some (.slice A1 hs.length c1) := by rw [hW0]; simp [go_sem]
    have hs0 : w.heap.size < W0.heap.size := by rw [hW0]; simp
    have hh0 : hi ≤ W0.heap.size := by omega
    replace h0 := h0.keep hb0 hh
    replace h1 := h1.keep hb0 hh
    clear hW0
    go_loopw [14] (fun i wr => ∃ k : Nat, k ≤ xs.length ∧ i = .int .i64 k ∧ Hid (∀ j, j < k → commitAt xs j = true) ∧ Below W0.heap.size W0 wr) (fun i _ => xs.length - (intOf i).toNat)
    case atStart => exact ⟨0, Nat.zero_le _, rfl, Lib.hid (fun j hj => absurd hj (by omega)), Below.refl _ _⟩
    case round =>
      obtain ⟨k, hk, rfl, ht, hb⟩ := hrel
      have hsz := hb.size
      have hbw : Below w.heap.size w wr := hb0.trans (hb.mono hb0.size)
      by_cases hkn : k < xs.length
      · have hkn' : (k : Int) < (xs.length : Int) := by omega
        obtain ⟨wo, rfl⟩ : ∃ wo : World, wo = wr := ⟨_, rfl⟩
        obtain ⟨b1, o1, x, rfl, _, hbhi, hx, B0, m0, e0, B2, m2, e2, d0, r0, d1, d2, r2⟩ := Commits.at (h0.keep hb hh0) hkn
        obtain ⟨sx, sx2, sx3⟩ := Hs.out x (List.mem_of_getElem? hx)
        have hca := commitAt_eq hx
        have Hca := Lib.hid hca
        have hn0 := Ints.n r0
        obtain ⟨hpc, hpm⟩ := Ints.cap r0
        subst hn0
        clear hx hca
        go_wp2
        refine name_world ?_
        intro W hW
        have hbr : Below wo.heap.size wo W := by rw [hW]; exact (Below.refl _ _).alloc (Nat.le_refl _) _
        have hbW : Below W0.heap.size W0 W := hb.trans (hbr.mono hsz)
        have hho : hi ≤ wo.heap.size := by omega
        have p0 := Later.cell (w := W) (a := ⟨wo.heap.size, 0, none⟩) (v := .slice B0 x.parents.length e0) (by rw [hW]; simp [go_sem])
        have p1 := Later.cell (w := W) (a := ⟨wo.heap.size, 1, none⟩) (v := .string ⟨x.who.toArray⟩) (by rw [hW]; simp [go_sem])
        have p2 := Later.cell (w := W) (a := ⟨wo.heap.size, 2, none⟩) (v := .slice B2 m2 e2) (by rw [hW]; simp [go_sem])
        have hoW : wo.heap.size < W.heap.size := by rw [hW]; simp
        have R0 := r0.keep hbr hho
        have R2 := r2.keep hbr hho
        have hhW : hi ≤ W.heap.size := by omega
        have cn := fun u : Later W => impl_nameOk_any x.who u.val sx.2.1
        have ct := fun u : Later W => impl_TreeOk_any B2 m2 e2 x.tree u.val _ _ (R2.later hhW u) (Nat.le_trans hhW u.below.size) sx2
        clear hW d0 d1 d2 r0 r2 R2
        by_cases g1 : 2 < x.parents.length
        · have g1' : (2 : Int) < (x.parents.length : Int) := by omega
          have g1d : decide ((2 : Int) < (x.parents.length : Int)) = true := by simpa using g1'
          have hf := commitOk_long (i := k) g1
          have Hf := Lib.hid hf
          clear hf
          refine wp_region_later_lit (by kernel_rfl) (by kernel_rfl) ?_; try simp only [List.append_eq, List.cons_append, List.nil_append]
          repeat (go_big_quiet_step (((first | (go_at_call 62; with_reducible exact Calls.later_same (cn _)) | (go_at_call 63; with_reducible exact Calls.later (ct _))))))
          (refine wpQuiet_nil ?_; intro _ hw'; obtain ⟨⟨w9, hb9⟩, hw''⟩ := hw'; subst hw''; try dsimp only)
          go_wp2
          go_ret
          exact ⟨ret_bool (repoOk_commit (r := ⟨xs, hs⟩) hkn (Hca.out.trans Hf.out)).symm, (hb0.trans ((hbW.trans (hb9.mono hbW.size)).mono hb0.size))⟩
        · have g1' : ¬ (2 : Int) < (x.parents.length : Int) := by omega
          have g1d : decide ((2 : Int) < (x.parents.length : Int)) = false := by simpa using g1'
          by_cases g2 : x.parents.length = 2 ∧ x.parents[0]? = x.parents[1]?
          · obtain ⟨g2l, g2e⟩ := g2
            have g2b : ((x.parents.length : Int) == 2) = true := by simp; omega
            have g20 : (0 : Int) < (x.parents.length : Int) := by omega
            have g21 : (1 : Int) < (x.parents.length : Int) := by omega
            have hf := commitOk_twin (i := k) g2l g2e
            have Hf := Lib.hid hf
            obtain ⟨b2, o2, p, rfl, _, _, hp, f0⟩ := Ints.at R0 (k := 0) (by omega)
            obtain ⟨b3, o3, p', hb3, _, _, hp', f1⟩ := Ints.at R0 (k := 1) (by omega)
            simp only [Option.some.injEq, Addr.mk.injEq, and_true] at hb3
            obtain ⟨rfl, rfl⟩ := hb3
            rw [← g2e, hp] at hp'
            obtain rfl := Option.some.inj hp'
            simp only [Nat.add_zero] at f0
            replace f0 := Later.cell f0
            replace f1 := Later.cell f1
            have hpp : (p == p) = true := by simp
            clear hf hp g2l g2e
            refine wp_region_later_lit (by kernel_rfl) (by kernel_rfl) ?_; try simp only [List.append_eq, List.cons_append, List.nil_append]
            repeat (go_big_quiet_step (((first | (go_at_call 62; with_reducible exact Calls.later_same (cn _)) | (go_at_call 63; with_reducible exact Calls.later (ct _))))))
            (refine wpQuiet_nil ?_; intro _ hw'; obtain ⟨⟨w9, hb9⟩, hw''⟩ := hw'; subst hw''; try dsimp only)
            go_wp2
            go_ret
            exact ⟨ret_bool (repoOk_commit (r := ⟨xs, hs⟩) hkn (Hca.out.trans Hf.out)).symm, (hb0.trans ((hbW.trans (hb9.mono hbW.size)).mono hb0.size))⟩
          · have hcase : (((x.parents.length : Int) == 2) = false) ∨ (((x.parents.length : Int) == 2) = true ∧ (0 : Int) < (x.parents.length : Int) ∧ (1 : Int) < (x.parents.length : Int) ∧ ∃ (b2 o2 : Nat) (p p' : Int), B0 = some ⟨b2, o2, none⟩ ∧
                (∀ u : Later W, u.val.cell? ⟨b2, o2, none⟩ = some (.int .i64 p)) ∧ (∀ u : Later W, u.val.cell? ⟨b2, o2 + 1, none⟩ = some (.int .i64 p')) ∧ (p == p') = false) := by
              by_cases hl2 : x.parents.length = 2
              · right
                obtain ⟨b2, o2, p, hB0, _, _, hp, f0⟩ := Ints.at R0 (k := 0) (by omega)
                obtain ⟨b3, o3, p', hb3, _, _, hp', f1⟩ := Ints.at R0 (k := 1) (by omega)
                rw [hB0] at hb3
                simp only [Option.some.injEq, Addr.mk.injEq, and_true] at hb3
                obtain ⟨rfl, rfl⟩ := hb3
                simp only [Nat.add_zero] at f0
                refine ⟨by simp; omega, by omega, by omega, b2, o2, p, p', hB0, Later.cell f0, Later.cell f1, ?_⟩
                simp
                intro e
                exact g2 ⟨hl2, by rw [hp, hp', e]⟩
              · left; simp; omega
            have Hg2 := Lib.hid g2
            clear g2
            cases t1 : nameOk x.who
            · rw [t1] at cn
              have hf := commitOk_name (i := k) t1
              have Hf := Lib.hid hf
              clear hf
              rcases hcase with g2b | ⟨g2b, g20, g21, b2, o2, p, p', rfl, f0, f1, hpp⟩
              all_goals
                refine wp_region_later_lit (by kernel_rfl) (by kernel_rfl) ?_; try simp only [List.append_eq, List.cons_append, List.nil_append]
                repeat (go_big_quiet_step (((first | (go_at_call 62; with_reducible exact Calls.later_same (cn _)) | (go_at_call 63; with_reducible exact Calls.later (ct _))))))
                (refine wpQuiet_nil ?_; intro _ hw'; obtain ⟨⟨w9, hb9⟩, hw''⟩ := hw'; subst hw''; try dsimp only)
                go_wp2
                go_ret
                exact ⟨ret_bool (repoOk_commit (r := ⟨xs, hs⟩) hkn (Hca.out.trans Hf.out)).symm, (hb0.trans ((hbW.trans (hb9.mono hbW.size)).mono hb0.size))⟩
            · rw [t1] at cn
              cases t2 : treeOk x.tree
              · rw [t2] at ct
                have hf := commitOk_tree (i := k) t2
                have Hf := Lib.hid hf
                clear hf
                rcases hcase with g2b | ⟨g2b, g20, g21, b2, o2, p, p', rfl, f0, f1, hpp⟩
                all_goals
                  refine wp_region_later_lit (by kernel_rfl) (by kernel_rfl) ?_; try simp only [List.append_eq, List.cons_append, List.nil_append]
                  repeat (go_big_quiet_step (((first | (go_at_call 62; with_reducible exact Calls.later_same (cn _)) | (go_at_call 63; with_reducible exact Calls.later (ct _))))))
                  (refine wpQuiet_nil ?_; intro _ hw'; obtain ⟨⟨w9, hb9⟩, hw''⟩ := hw'; subst hw''; try dsimp only)
                  go_wp2
                  go_ret
                  exact ⟨ret_bool (repoOk_commit (r := ⟨xs, hs⟩) hkn (Hca.out.trans Hf.out)).symm, (hb0.trans ((hbW.trans (hb9.mono hbW.size)).mono hb0.size))⟩
              · rw [t2] at ct
                rcases hcase with g2b | ⟨g2b, g20, g21, b2, o2, p, p', rfl, f0, f1, hpp⟩
                all_goals
                  refine wp_region_later_lit (by kernel_rfl) (by kernel_rfl) ?_; try simp only [List.append_eq, List.cons_append, List.nil_append]
                  repeat (go_big_quiet_step (((first | (go_at_call 62; with_reducible exact Calls.later_same (cn _)) | (go_at_call 63; with_reducible exact Calls.later (ct _))))))
                  (refine wpQuiet_nil ?_; intro _ hw'; obtain ⟨⟨w9, hb9⟩, hw''⟩ := hw'; subst hw''; try dsimp only)
                  rename World => w9
                  have hs9 := hb9.size
                  have hb4 : Below W0.heap.size W0 w9 := hbW.trans (hb9.mono hbW.size)
                  have pf : w9.cell? ⟨wo.heap.size, 0, none⟩ = some (.slice _ x.parents.length e0) := p0 ⟨w9, hb9⟩
                  have R9 := R0.keep hb9 hhW
                  clear p0 p1 p2
                  go_wp2
                  go_loop [55] (fun i => ∃ l : Nat, l ≤ x.parents.length ∧ i = .int .i64 l ∧ Hid ((x.parents.take l).all (fun p => inRange p 0 ((k : Int) - 1)) = true)) (fun i => x.parents.length - (intOf i).toNat)
                  case atStart => exact ⟨0, Nat.zero_le _, rfl, Lib.hid (by simp)⟩
                  case round =>
                    obtain ⟨l, hl, rfl, ht2⟩ := hrel
                    by_cases hln : l < x.parents.length
                    · have hln' : (l : Int) < (x.parents.length : Int) := by omega
                      obtain ⟨b5, o5, q, hB5, _, _, hq, f5⟩ := Ints.at R9 hln
                      have hin := fun w => impl_within_any q 0 ((k : Int) - 1) w
                      have Hq := Lib.hid hq
                      clear hq
                      first
                        | (simp only [Option.some.injEq, Addr.mk.injEq, and_true] at hB5; obtain ⟨rfl, rfl⟩ := hB5)
                        | subst hB5
                      cases tb : inRange q 0 ((k : Int) - 1)
                      · rw [tb] at hin
                        go_wp2_with fail
                        refine Calls.mono (hin _) ?_
                        rintro e w' ⟨rfl, rfl⟩
                        go_wp2
                        go_ret
                        exact ⟨ret_bool (repoOk_commit (r := ⟨xs, hs⟩) hkn (Hca.out.trans (commitOk_parent Hq.out tb))).symm, hb0.trans (hb4.mono hb0.size)⟩
                      · rw [tb] at hin
                        go_wp2_with fail
                        refine Calls.mono (hin _) ?_
                        rintro e w' ⟨rfl, rfl⟩
                        go_wp2
                        go_round
                        case rel => exact ⟨l + 1, by omega, by go_num, Lib.hid (all_take_succ Hq.out ht2.out tb)⟩
                        case measure => simp [intOf]; omega
                    · have ht3 := ht2.out
                      rw [List.take_of_length_le (by omega)] at ht3
                      have hyes := Hca.out.trans (commitOk_yes g1 Hg2.out t1 t2 ht3)
                      have Hyes := Lib.hid hyes
                      clear hyes ht3
                      go_wp2
                      go_roundw
                      case rel => exact ⟨k + 1, by omega, by go_num, Lib.hid (fun j hj => by
                        by_cases e : j = k
                        · rw [e]; exact Hyes.out
                        · exact ht.out j (by omega)), hb4⟩
                      case measure => simp [intOf]; omega
      · obtain rfl : k = xs.length := by omega
        have hv := repoOk_heads (r := ⟨xs, hs⟩) ht.out
        have Hv := Lib.hid hv
        have q0r : wr.cell? ⟨w.heap.size, 0, none⟩ = some (.slice A0 xs.length c0) := (hb.cell (by exact hs0)).trans q0
        have q1r : wr.cell? ⟨w.heap.size, 1, none⟩ = some (.slice A1 hs.length c1) := (hb.cell (by exact hs0)).trans q1
        clear hv
        go_wp2_with fail
        refine Calls.mono (impl_headsOk_any A0 A1 xs.length c0 hs.length c1 A1 hs.length c1 hs wr lo hi (h1.keep hb hh0) (by omega) rn0 Hh.out) ?_
        rintro e w2 ⟨rfl, hb2⟩
        go_wp2
        go_ret
        exact ⟨ret_bool (by rw [Hv.out]; simp [h16]), hbw.trans (hb2.mono hbw.size)⟩
  · go_enter Tryz.func42, Tryz.ntmps42
    go_wp2
    go_ret
    exact ⟨ret_bool (by simp [repoOk]; omega), by (repeat' (first | with_reducible exact Below.refl _ _ | with_reducible assumption | (with_reducible refine Below.setCell ?_ ?_ _) | (with_reducible refine Below.alloc ?_ ?_ _) | (with_reducible refine below_drewN ?_ _) | (with_reducible refine Below.drew ?_) | omega | (simp; done) | (simp; omega)))⟩
end Go.Proofs.YtenkceeicmfjhaaGreatDoor

/- Walk: the reference's l4Ok, TreeOk. -/
namespace Go.Proofs.YtenkceeicmfjhaaGreatDoor
open Go.RowKit

set_option maxRecDepth 100000 in
set_option maxHeartbeats 2000000 in
theorem spec_l4Ok_any (A : Option Addr) (n c : Nat) (xs : List PFile) (w : World) (lo hi : Nat) (h : Rep w lo hi (encFiles xs) (.slice A n c)) (hh : hi ≤ w.heap.size) (ht : okTree xs) :
    Calls Tryz.prog 37 #[.slice A n c] w fun e w' => e = .returned (.bool (treeOk xs)) ∧ Below w.heap.size w w' := by
  have hl := Files.n h
  obtain ⟨hc, hm⟩ := Files.cap h
  subst hl
  have Hs := Lib.hid ht
  clear ht
  go_enter Tryz.func37, Tryz.ntmps37
  go_wp2
  go_loopw [3] (fun i wr => ∃ k : Nat, k ≤ xs.length ∧ i = .int .i64 k ∧ Hid (∀ j, j < k → treeAt' xs j = true) ∧ Below w.heap.size w wr) (fun i _ => xs.length - (intOf i).toNat)
  case atStart => exact ⟨0, Nat.zero_le _, rfl, Lib.hid (fun j hj => absurd hj (by omega)), Below.refl _ _⟩
  case round =>
    obtain ⟨k, hk, rfl, ht, hb⟩ := hrel
    have hsz := hb.size
    by_cases hkn : k < xs.length
    · have hkn' : (k : Int) < (xs.length : Int) := by omega
      obtain ⟨wo, rfl⟩ : ∃ wo : World, wo = wr := ⟨_, rfl⟩
      obtain ⟨b1, o1, x, rfl, _, hbhi, hx, A1, n1, c1, d0, d1, r1⟩ := Files.at (h.keep hb hh) hkn
      obtain ⟨sx1, sx2⟩ := Hs.out x (List.mem_of_getElem? hx)
      have Hx := Lib.hid hx
      have hho : hi ≤ wo.heap.size := Nat.le_trans hh hsz
      have hW2 := h.keep hb hh
      clear hx
      replace d0 := Later.cell d0
      replace d1 := Later.cell d1
      have ct := fun u : Later wo => spec_l1Ok_any _ _ _ x.text u.val _ _ (r1.later hho u) sx2
      have cp := fun u : Later wo => spec_l4Path_any x.path u.val sx1
      go_wp2
      refine wp_region_later_lit (by kernel_rfl) (by kernel_rfl) ?_; try simp only [List.append_eq, List.cons_append, List.nil_append]
      cases t2 : pathOk x.path
      · rw [t2] at cp
        repeat (go_big_quiet_step (((first | (go_at_call 54; with_reducible exact Calls.later_same (ct _)) | (go_at_call 53; with_reducible exact Calls.later (cp _))))))
        (refine wpQuiet_nil ?_; intro _ hw'; obtain ⟨⟨w9, hb9⟩, hw''⟩ := hw'; subst hw''; try dsimp only)
        go_wp2
        go_ret
        exact ⟨ret_bool (treeOk_false' hkn (treeAt_path Hx.out t2).2).symm, hb.trans (hb9.mono hsz)⟩
      · rw [t2] at cp
        cases t1 : textOk x.text
        · rw [t1] at ct
          repeat (go_big_quiet_step (((first | (go_at_call 54; with_reducible exact Calls.later_same (ct _)) | (go_at_call 53; with_reducible exact Calls.later (cp _))))))
          (refine wpQuiet_nil ?_; intro _ hw'; obtain ⟨⟨w9, hb9⟩, hw''⟩ := hw'; subst hw''; try dsimp only)
          go_wp2
          go_ret
          exact ⟨ret_bool (treeOk_false' hkn (treeAt_text Hx.out t1).2).symm, hb.trans (hb9.mono hsz)⟩
        · rw [t1] at ct
          by_cases t6 : 0 < k ∧ ∃ y, xs[k - 1]? = some y ∧ ltS y.path x.path = false
          · obtain ⟨hk0, y, hy, hlt⟩ := t6
            have q5 : decide (0 < k) = true := by simp; omega
            have q6 : (1 : Int) ≤ (k : Int) := by omega
            have q7 : (k : Int) - 1 < (xs.length : Int) := by omega
            obtain ⟨b3, o3, y', hb3, _, _, hy', A3, n3, c3, f0, f1, r3⟩ := Files.at hW2 (k := k - 1) (by omega)
            simp only [Option.some.injEq, Addr.mk.injEq, and_true] at hb3
            obtain ⟨rfl, rfl⟩ := hb3
            rw [hy] at hy'
            obtain rfl := Option.some.inj hy'
            replace f0 := Later.cell f0
            have hf := (treeAt_order Hx.out hk0 hy hlt).2
            have Hf := Lib.hid hf
            have hle : (Op.bytesLess x.path y.path || x.path == y.path) = true := leS hlt
            clear hy hf f1 hlt
            repeat (go_big_quiet_step (((first | (go_at_call 54; with_reducible exact Calls.later_same (ct _)) | (go_at_call 53; with_reducible exact Calls.later (cp _))))))
            (refine wpQuiet_nil ?_; intro _ hw'; obtain ⟨⟨w9, hb9⟩, hw''⟩ := hw'; subst hw''; try dsimp only)
            go_wp2
            go_ret
            exact ⟨ret_bool (treeOk_false' hkn Hf.out).symm, hb.trans (hb9.mono hsz)⟩
          · have H3 : Hid (∀ g, 0 < k → xs[k - 1]? = some g → ltS g.path x.path = true) := Lib.hid (fun g hk0 hg => by
              cases hl : ltS g.path x.path with
              | true => rfl
              | false => exact absurd ⟨hk0, g, hg, hl⟩ t6)
            clear t6
            have hcase : (decide (0 < k) = false) ∨ ((1 : Int) ≤ (k : Int) ∧ decide (0 < k) = true ∧ (k : Int) - 1 < (xs.length : Int) ∧ ∃ (y : Str), (∀ u : Later wo, u.val.cell? ⟨b1, o1 + (k - 1) * 2, none⟩ = some (.string ⟨y.toArray⟩)) ∧ (Op.bytesLess x.path y || x.path == y) = false) := by
              by_cases hk0 : 0 < k
              · right
                obtain ⟨b3, o3, y, hb3, _, _, hy, A3, n3, c3, f0, f1, r3⟩ := Files.at hW2 (k := k - 1) (by omega)
                simp only [Option.some.injEq, Addr.mk.injEq, and_true] at hb3
                obtain ⟨rfl, rfl⟩ := hb3
                exact ⟨by omega, by simpa using hk0, by omega, y.path, Later.cell f0, leS_no (H3.out y hk0 hy)⟩
              · left; simpa using hk0
            clear hW2
            rcases hcase with q5 | ⟨q6, q5, q7, y, f0, hle⟩
            all_goals
              repeat (go_big_quiet_step (((first | (go_at_call 54; with_reducible exact Calls.later_same (ct _)) | (go_at_call 53; with_reducible exact Calls.later (cp _))))))
              (refine wpQuiet_nil ?_; intro _ hw'; obtain ⟨⟨w9, hb9⟩, hw''⟩ := hw'; subst hw''; try dsimp only)
              rename World => w9
              go_wp2
              have hb4 : Below w.heap.size w w9 := hb.trans (hb9.mono hsz)
              have hs9 := hb9.size
              go_loopw [4] (fun i wr => ∃ l : Nat, l ≤ xs.length ∧ i = .int .i64 l ∧ Hid ((xs.take l).all (fun g => !below x.path g.path) = true) ∧ Below w9.heap.size w9 wr) (fun i _ => xs.length - (intOf i).toNat)
              case atStart => exact ⟨0, Nat.zero_le _, rfl, Lib.hid (by simp), Below.refl _ _⟩
              case round =>
                obtain ⟨l, hl, rfl, ht2, hb5⟩ := hrel
                have hs5 := hb5.size
                have hb6 : Below w.heap.size w wr := hb4.trans (hb5.mono hb4.size)
                by_cases hln : l < xs.length
                · have hln' : (l : Int) < (xs.length : Int) := by omega
                  obtain ⟨b3, o3, g, hb3, _, _, hg, A3, n3, c3, f0, f1, r3⟩ := Files.at (h.keep hb6 hh) (k := l) hln
                  simp only [Option.some.injEq, Addr.mk.injEq, and_true] at hb3
                  obtain ⟨rfl, rfl⟩ := hb3
                  obtain ⟨b4, o4, x', hb3', _, _, hx', A4, n4, c4, e0, e1, r4⟩ := Files.at (h.keep hb6 hh) (k := k) hkn
                  simp only [Option.some.injEq, Addr.mk.injEq, and_true] at hb3'
                  obtain ⟨rfl, rfl⟩ := hb3'
                  rw [Hx.out] at hx'
                  obtain rfl := Option.some.inj hx'
                  have sg := (Hs.out g (List.mem_of_getElem? hg)).1
                  have hcall := fun w => spec_l4In_any x.path g.path w
                  have Hg := Lib.hid hg
                  clear hg d0 d1
                  replace f0 := Later.cell f0
                  replace e0 := Later.cell e0
                  clear f1 e1 r3 r4
                  cases tb : below x.path g.path
                  · rw [tb] at hcall
                    go_wp2
                    refine wp_region_later_lit (by kernel_rfl) (by kernel_rfl) ?_; try simp only [List.append_eq, List.cons_append, List.nil_append]
                    repeat (go_big_quiet_step (((go_at_call 55; with_reducible exact Calls.later_same (hcall _)))))
                    (refine wpQuiet_nil ?_; intro _ hw'; obtain ⟨⟨w10, hb9'⟩, hw''⟩ := hw'; subst hw''; try dsimp only)
                    go_wp2
                    go_roundw
                    case rel => exact ⟨l + 1, by omega, by go_num, Lib.hid (all_take_succ Hg.out ht2.out (by simp [tb])), hb5.trans (hb9'.mono hs5)⟩
                    case measure => simp [intOf]; omega
                  · rw [tb] at hcall
                    go_wp2
                    refine wp_region_later_lit (by kernel_rfl) (by kernel_rfl) ?_; try simp only [List.append_eq, List.cons_append, List.nil_append]
                    repeat (go_big_quiet_step (((go_at_call 55; with_reducible exact Calls.later_same (hcall _)))))
                    (refine wpQuiet_nil ?_; intro _ hw'; obtain ⟨⟨w10, hb9'⟩, hw''⟩ := hw'; subst hw''; try dsimp only)
                    go_wp2
                    go_ret
                    exact ⟨ret_bool (treeOk_false' hkn (treeAt'_below Hx.out Hg.out tb)).symm, hb6.trans (hb9'.mono hb6.size)⟩
                · have ht3 := ht2.out
                  rw [List.take_of_length_le (by omega)] at ht3
                  have hyes := treeAt'_yes Hx.out t1 t2 H3.out ht3
                  have Hyes := Lib.hid hyes
                  clear hyes ht3
                  go_wp2
                  go_roundw
                  case rel => exact ⟨k + 1, by omega, by go_num, Lib.hid (fun j hj => by
                    by_cases e : j = k
                    · rw [e]; exact Hyes.out
                    · exact ht.out j (by omega)), hb6⟩
                  case measure => simp [intOf]; omega
    · obtain rfl : k = xs.length := by omega
      have hv := treeOk_all' ht.out
      have Hv := Lib.hid hv
      clear hv
      by_cases h8 : xs.length ≤ 8
      all_goals
        go_wp2
        go_ret
        exact ⟨ret_bool (by rw [Hv.out]; simp [h8]; try omega), hb⟩

end Go.Proofs.YtenkceeicmfjhaaGreatDoor
