/- Walk: the reference's l7Ok, RepoOk. -/
import Derived.Test.YtifeflneodmmlaaDoorRepoPlain
import Derived.Test.YtifeflneodmmlaaDoorTree2
namespace Go.Proofs.YtifeflneodmmlaaDoor
open Go.RowKit

theorem commitOk_again {i l : Nat} {c : PCommit} {p : Int} (hl : 0 < l) (hp : c.parents[l]? = some p) (h0 : c.parents[0]? = some p) : commitOk i c = false := by
  have hlen := (List.getElem?_eq_some_iff.1 hp).1
  by_cases h2 : 2 < c.parents.length
  · exact commitOk_long h2
  · obtain rfl : l = 1 := by omega
    exact commitOk_twin (by omega) (by rw [h0, hp])

set_option maxRecDepth 100000 in
set_option maxHeartbeats 4000000 in
theorem spec_l7Ok_any (r : PRepo) (A0 A1 : Option Addr) (n0 c0 n1 c1 : Nat) (w : World) (lo hi : Nat) (h0 : Rep w lo hi (encCommits r.commits) (.slice A0 n0 c0)) (h1 : Rep w lo hi (encHeads r.heads) (.slice A1 n1 c1)) (hh : hi ≤ w.heap.size) (hr : okRepoS r) :
    Calls Tryd.prog 15 #[.agg #[.slice A0 n0 c0, .slice A1 n1 c1]] w fun e w' => e = .returned (.bool (repoOk r)) ∧ Below w.heap.size w w' := by
  obtain ⟨rn0, rn1, rc, rh⟩ := hr
  have hl0 := Commits.n h0
  have hl1 := Heads.n h1
  obtain ⟨hc0, hm0⟩ := Commits.cap h0
  obtain ⟨hc1, hm1⟩ := Heads.cap h1
  subst hl0 hl1
  obtain ⟨xs, hs⟩ := r
  dsimp only at *
  have Hs := Lib.hid rc
  have Hh := Lib.hid rh
  clear rc rh
  go_enter Tryd.func15, Tryd.ntmps15
  go_wp2
  refine name_world ?_
  intro W0 hW0
  have hb0 : Below w.heap.size w W0 := by rw [hW0]; exact (Below.refl _ _).alloc (Nat.le_refl _) _
  have q0 : W0.cell? ⟨w.heap.size, 0, none⟩ = some (.slice A0 xs.length c0) := by rw [hW0]; simp [go_sem]
  have q1 : W0.cell? ⟨w.heap.size, 1, none⟩ = some (.slice A1 hs.length c1) := by rw [hW0]; simp [go_sem]
  have hs0 : w.heap.size < W0.heap.size := by rw [hW0]; simp
  have hh0 : hi ≤ W0.heap.size := by omega
  replace h0 := h0.keep hb0 hh
  replace h1 := h1.keep hb0 hh
  clear hW0
  go_loopw [3] (fun i wr => ∃ k : Nat, k ≤ xs.length ∧ i = .int .i64 k ∧ Hid (∀ j, j < k → commitAt xs j = true) ∧ Below W0.heap.size W0 wr) (fun i _ => xs.length - (intOf i).toNat)
  case atStart => exact ⟨0, Nat.zero_le _, rfl, Lib.hid (fun j hj => absurd hj (by omega)), Below.refl _ _⟩
  case round =>
    obtain ⟨k, hk, rfl, ht, hb⟩ := hrel
    have hsz := hb.size
    have hbw : Below w.heap.size w wr := hb0.trans (hb.mono hb0.size)
    have q0r : wr.cell? ⟨w.heap.size, 0, none⟩ = some (.slice A0 xs.length c0) := (hb.cell (by exact hs0)).trans q0
    have q1r : wr.cell? ⟨w.heap.size, 1, none⟩ = some (.slice A1 hs.length c1) := (hb.cell (by exact hs0)).trans q1
    by_cases hkn : k < xs.length
    · have hkn' : (k : Int) < (xs.length : Int) := by omega
      obtain ⟨wo, rfl⟩ : ∃ wo : World, wo = wr := ⟨_, rfl⟩
      obtain ⟨b1, o1, x, rfl, _, hbhi, hx, B0, m0, e0, B2, m2, e2, d0, r0, d1, d2, r2⟩ := Commits.at (h0.keep hb hh0) hkn
      obtain ⟨sx, sx2, sx3⟩ := Hs.out x (List.mem_of_getElem? hx)
      have hca := commitAt_eq hx
      have Hca := Lib.hid hca
      have hn0 := Ints.n r0
      obtain ⟨hpc, hpm⟩ := Ints.cap r0
      subst hn0
      clear hx hca
      go_wp2
      refine name_world ?_
      intro W hW
      have hbr : Below wo.heap.size wo W := by rw [hW]; exact (Below.refl _ _).alloc (Nat.le_refl _) _
      have hbW : Below W0.heap.size W0 W := hb.trans (hbr.mono hsz)
      have hho : hi ≤ wo.heap.size := by omega
      have p0 : W.cell? ⟨wo.heap.size, 0, none⟩ = some (.slice B0 x.parents.length e0) := by rw [hW]; simp [go_sem]
      have p1 : W.cell? ⟨wo.heap.size, 1, none⟩ = some (.string ⟨x.who.toArray⟩) := by rw [hW]; simp [go_sem]
      have p2 : W.cell? ⟨wo.heap.size, 2, none⟩ = some (.slice B2 m2 e2) := by rw [hW]; simp [go_sem]
      have hoW : wo.heap.size < W.heap.size := by rw [hW]; simp
      have R0 := r0.keep hbr hho
      have R2 := r2.keep hbr hho
      have hhW : hi ≤ W.heap.size := by omega
      clear hW d0 d1 d2 r0 r2 q0r q1r
      go_loopw [5] (fun i wr => ∃ l : Nat, l ≤ x.parents.length ∧ i = .int .i64 l ∧ Hid (∀ j p, j < l → x.parents[j]? = some p → inRange p 0 ((k : Int) - 1) = true ∧ (0 < j → x.parents[0]? ≠ some p)) ∧ Below W.heap.size W wr) (fun i _ => x.parents.length - (intOf i).toNat)
      case atStart => exact ⟨0, Nat.zero_le _, rfl, Lib.hid (fun j p hj => absurd hj (by omega)), Below.refl _ _⟩
      case round =>
        obtain ⟨l, hl, rfl, ht2, hb2⟩ := hrel
        have hs2 := hb2.size
        have hb3 : Below W0.heap.size W0 wr := hbW.trans (hb2.mono hbW.size)
        by_cases hln : l < x.parents.length
        · have hln' : (l : Int) < (x.parents.length : Int) := by omega
          obtain ⟨wi, rfl⟩ : ∃ wi : World, wi = wr := ⟨_, rfl⟩
          obtain ⟨b5, o5, q, rfl, _, _, hq, f5⟩ := Ints.at (R0.keep hb2 hhW) hln
          obtain ⟨b6, o6, qz, hB6, _, _, hqz, f6⟩ := Ints.at (R0.keep hb2 hhW) (k := 0) (by omega)
          simp only [Option.some.injEq, Addr.mk.injEq, and_true] at hB6
          obtain ⟨rfl, rfl⟩ := hB6
          simp only [Nat.add_zero] at f6
          have g20 : (0 : Int) < (x.parents.length : Int) := by omega
          have p0p := (hb2.cell (by exact hoW)).trans p0
          have p0r := Later.cell (w := wi) p0p
          have hin := fun (u : Later wi) => spec_l1In_any q 0 ((k : Int) - 1) u.val
          have Hq := Lib.hid hq
          have Hqz := Lib.hid hqz
          have hne : ∀ q', x.parents[l]? = some q' → q' = q := fun q' h => by rw [Hq.out] at h; exact (Option.some.inj h).symm
          have Hne := Lib.hid hne
          replace f5 := Later.cell f5
          replace f6 := Later.cell f6
          clear hq hqz hne
          cases tb : inRange q 0 ((k : Int) - 1)
          · rw [tb] at hin
            go_wp2
            refine wp_region_later_lit (by kernel_rfl) (by kernel_rfl) ?_; try simp only [List.append_eq, List.cons_append, List.nil_append]
            repeat (go_big_quiet_step (((go_at_call 16; with_reducible exact Calls.later_same (hin _)))))
            (refine wpQuiet_nil ?_; intro _ hw'; obtain ⟨⟨w10, hb9'⟩, hw''⟩ := hw'; subst hw''; try dsimp only)
            go_wp2
            go_ret
            exact ⟨ret_bool (repoOk_commit (r := ⟨xs, hs⟩) hkn (Hca.out.trans (commitOk_parent Hq.out tb))).symm, hb0.trans ((hb3.trans (hb9'.mono hb3.size)).mono hb0.size)⟩
          · rw [tb] at hin
            by_cases hl0 : 0 < l
            · have q5 : decide (0 < l) = true := by simp; omega
              have q5' : decide ((0 : Int) < (l : Int)) = true := by simp; omega
              by_cases hqq : q = qz
              · subst hqq
                have hpp : (q == q) = true := by simp
                go_wp2
                refine wp_region_later_lit (by kernel_rfl) (by kernel_rfl) ?_; try simp only [List.append_eq, List.cons_append, List.nil_append]
                repeat (go_big_quiet_step (((go_at_call 16; with_reducible exact Calls.later_same (hin _)))))
                (refine wpQuiet_nil ?_; intro _ hw'; obtain ⟨⟨w10, hb9'⟩, hw''⟩ := hw'; subst hw''; try dsimp only)
                go_wp2
                go_ret
                exact ⟨ret_bool (repoOk_commit (r := ⟨xs, hs⟩) hkn (Hca.out.trans (commitOk_again hl0 Hq.out Hqz.out))).symm, hb0.trans ((hb3.trans (hb9'.mono hb3.size)).mono hb0.size)⟩
              · have hpp : (q == qz) = false := by simpa using hqq
                have Hqq := Lib.hid hqq
                clear hqq
                go_wp2
                refine wp_region_later_lit (by kernel_rfl) (by kernel_rfl) ?_; try simp only [List.append_eq, List.cons_append, List.nil_append]
                repeat (go_big_quiet_step (((go_at_call 16; with_reducible exact Calls.later_same (hin _)))))
                (refine wpQuiet_nil ?_; intro _ hw'; obtain ⟨⟨w10, hb9'⟩, hw''⟩ := hw'; subst hw''; try dsimp only)
                go_wp2
                go_roundw
                case rel => exact ⟨l + 1, by omega, by go_num, Lib.hid (fun j p hj hp => by
                  by_cases e : j = l
                  · subst e
                    rw [Hne.out p hp]
                    exact ⟨tb, fun _ h => Hqq.out (by rw [Hqz.out] at h; exact (Option.some.inj h).symm)⟩
                  · exact ht2.out j p (by omega) hp), hb2.trans (hb9'.mono hb2.size)⟩
                case measure => simp [intOf]; omega
            · have q5 : decide (0 < l) = false := by simp; omega
              have q5' : decide ((0 : Int) < (l : Int)) = false := by simp; omega
              go_wp2
              refine wp_region_later_lit (by kernel_rfl) (by kernel_rfl) ?_; try simp only [List.append_eq, List.cons_append, List.nil_append]
              repeat (go_big_quiet_step (((go_at_call 16; with_reducible exact Calls.later_same (hin _)))))
              (refine wpQuiet_nil ?_; intro _ hw'; obtain ⟨⟨w10, hb9'⟩, hw''⟩ := hw'; subst hw''; try dsimp only)
              go_wp2
              go_roundw
              case rel => exact ⟨l + 1, by omega, by go_num, Lib.hid (fun j p hj hp => by
                by_cases e : j = l
                · subst e
                  rw [Hne.out p hp]
                  exact ⟨tb, fun h => absurd h hl0⟩
                · exact ht2.out j p (by omega) hp), hb2.trans (hb9'.mono hb2.size)⟩
              case measure => simp [intOf]; omega
        · obtain rfl : l = x.parents.length := by omega
          have hall : (x.parents.all fun p => inRange p 0 ((k : Int) - 1)) = true := by
            rw [List.all_eq_true]
            intro p hp
            obtain ⟨j, hj⟩ := List.getElem?_of_mem hp
            exact (ht2.out j p (List.getElem?_eq_some_iff.1 hj).1 hj).1
          have htw : ¬ (x.parents.length = 2 ∧ x.parents[0]? = x.parents[1]?) := by
            rintro ⟨e2, e3⟩
            obtain ⟨p, hp⟩ : ∃ p, x.parents[1]? = some p := ⟨_, List.getElem?_eq_getElem (by omega)⟩
            exact (ht2.out 1 p (by omega) hp).2 (by omega) (by rw [e3, hp])
          have p0r := (hb2.cell (by exact hoW)).trans p0
          have p1r := (hb2.cell (by exact hoW)).trans p1
          have p2r := (hb2.cell (by exact hoW)).trans p2
          have cn := fun w => spec_l4Name_any x.who w sx.2.1
          have ct := spec_l4Ok_any B2 m2 e2 x.tree wr _ _ (R2.keep hb2 hhW) (by omega) sx2
          have Hall := Lib.hid hall
          have Htw := Lib.hid htw
          clear hall htw p0 p1 p2 R0 R2
          by_cases g1 : 2 < x.parents.length
          · have g1' : (2 : Int) < (x.parents.length : Int) := by omega
            have hf := commitOk_long (i := k) g1
            have Hf := Lib.hid hf
            clear hf
            go_wp2
            go_ret
            exact ⟨ret_bool (repoOk_commit (r := ⟨xs, hs⟩) hkn (Hca.out.trans Hf.out)).symm, hb0.trans (hb3.mono hb0.size)⟩
          · have g1' : ¬ (2 : Int) < (x.parents.length : Int) := by omega
            cases t1 : nameOk x.who
            · rw [t1] at cn
              have hf := commitOk_name (i := k) t1
              have Hf := Lib.hid hf
              clear hf
              go_wp2_with fail
              refine Calls.mono (cn _) ?_
              rintro e w' ⟨rfl, rfl⟩
              go_wp2
              go_ret
              exact ⟨ret_bool (repoOk_commit (r := ⟨xs, hs⟩) hkn (Hca.out.trans Hf.out)).symm, hb0.trans (hb3.mono hb0.size)⟩
            · rw [t1] at cn
              cases t2 : treeOk x.tree
              · rw [t2] at ct
                have hf := commitOk_tree (i := k) t2
                have Hf := Lib.hid hf
                clear hf
                go_wp2_with fail
                refine Calls.mono (cn _) ?_
                rintro e w' ⟨rfl, rfl⟩
                go_wp2_with fail
                refine Calls.mono ct ?_
                rintro e w4 ⟨rfl, hb4⟩
                go_wp2
                go_ret
                exact ⟨ret_bool (repoOk_commit (r := ⟨xs, hs⟩) hkn (Hca.out.trans Hf.out)).symm, hb0.trans ((hb3.trans (hb4.mono hb3.size)).mono hb0.size)⟩
              · rw [t2] at ct
                have hyes := Hca.out.trans (commitOk_yes g1 Htw.out t1 t2 Hall.out)
                have Hyes := Lib.hid hyes
                clear hyes
                go_wp2_with fail
                refine Calls.mono (cn _) ?_
                rintro e w' ⟨rfl, rfl⟩
                go_wp2_with fail
                refine Calls.mono ct ?_
                rintro e w4 ⟨rfl, hb4⟩
                go_wp2
                go_roundw
                case rel => exact ⟨k + 1, by omega, by go_num, Lib.hid (fun j hj => by
                  by_cases e : j = k
                  · rw [e]; exact Hyes.out
                  · exact ht.out j (by omega)), hb3.trans (hb4.mono hb3.size)⟩
                case measure => simp [intOf]; omega
    · obtain rfl : k = xs.length := by omega
      have hv := repoOk_heads (r := ⟨xs, hs⟩) ht.out
      have Hv := Lib.hid hv
      clear hv
      obtain ⟨wo, rfl⟩ : ∃ wo : World, wo = wr := ⟨_, rfl⟩
      have hho : hi ≤ wo.heap.size := by omega
      have H1 := h1.keep hb hh0
      have hsb : w.heap.size < wo.heap.size := by omega
      go_wp2
      go_loopw [6] (fun i wr => ∃ l : Nat, l ≤ hs.length ∧ i = .int .i64 l ∧ Hid (∀ j, j < l → headAt xs.length hs j = true) ∧ Below wo.heap.size wo wr) (fun i _ => hs.length - (intOf i).toNat)
      case atStart => exact ⟨0, Nat.zero_le _, rfl, Lib.hid (fun j hj => absurd hj (by omega)), Below.refl _ _⟩
      case round =>
        obtain ⟨l, hl, rfl, ht2, hb2⟩ := hrel
        have hs2 := hb2.size
        have hb3 : Below w.heap.size w wr := hbw.trans (hb2.mono hbw.size)
        have q0w : wr.cell? ⟨w.heap.size, 0, none⟩ = some (.slice A0 xs.length c0) := (hb2.cell (by exact hsb)).trans q0r
        have q1w : wr.cell? ⟨w.heap.size, 1, none⟩ = some (.slice A1 hs.length c1) := (hb2.cell (by exact hsb)).trans q1r
        by_cases hln : l < hs.length
        · have hln' : (l : Int) < (hs.length : Int) := by omega
          obtain ⟨wi, rfl⟩ : ∃ wi : World, wi = wr := ⟨_, rfl⟩
          have HW := H1.keep hb2 hho
          obtain ⟨b1, o1, x, rfl, _, hbhi, hx, d0, d1⟩ := Heads.at HW hln
          have sx := Hh.out x (List.mem_of_getElem? hx)
          have Hx := Lib.hid hx
          have cn := fun u : Later wi => spec_l4Name_any x.name u.val sx.1
          have ce := fun u : Later wi => spec_l1In_any x.at_ 0 ((xs.length : Int) - 1) u.val
          have q0l := Later.cell q0w
          have q1l := Later.cell q1w
          replace d0 := Later.cell d0
          replace d1 := Later.cell d1
          clear hx
          go_wp2
          refine wp_region_later_lit (by kernel_rfl) (by kernel_rfl) ?_; try simp only [List.append_eq, List.cons_append, List.nil_append]
          cases t1 : nameOk x.name
          · rw [t1] at cn
            repeat (go_big_quiet_step (((first | (go_at_call 28; with_reducible exact Calls.later_same (cn _)) | (go_at_call 16; with_reducible exact Calls.later_same (ce _))))))
            (refine wpQuiet_nil ?_; intro _ hw'; obtain ⟨⟨w10, hb9'⟩, hw''⟩ := hw'; subst hw''; try dsimp only)
            go_wp2
            go_ret
            exact ⟨ret_bool (by rw [Hv.out, headsOk_false hln (headAt_name Hx.out t1)]; simp), hb3.trans (hb9'.mono hb3.size)⟩
          · rw [t1] at cn
            cases t2 : inRange x.at_ 0 ((xs.length : Int) - 1)
            · rw [t2] at ce
              repeat (go_big_quiet_step (((first | (go_at_call 28; with_reducible exact Calls.later_same (cn _)) | (go_at_call 16; with_reducible exact Calls.later_same (ce _))))))
              (refine wpQuiet_nil ?_; intro _ hw'; obtain ⟨⟨w10, hb9'⟩, hw''⟩ := hw'; subst hw''; try dsimp only)
              go_wp2
              go_ret
              exact ⟨ret_bool (by rw [Hv.out, headsOk_false hln (headAt_at Hx.out t2)]; simp), hb3.trans (hb9'.mono hb3.size)⟩
            · rw [t2] at ce
              by_cases t6 : 0 < l ∧ ∃ y, hs[l - 1]? = some y ∧ ltS y.name x.name = false
              · obtain ⟨hk0, y, hy, hlt⟩ := t6
                have q5 : decide (0 < l) = true := by simp; omega
                have q6 : (1 : Int) ≤ (l : Int) := by omega
                have q7 : (l : Int) - 1 < (hs.length : Int) := by omega
                obtain ⟨b3, o3, y', hb3', _, _, hy', f0, f1⟩ := Heads.at HW (k := l - 1) (by omega)
                simp only [Option.some.injEq, Addr.mk.injEq, and_true] at hb3'
                obtain ⟨rfl, rfl⟩ := hb3'
                rw [hy] at hy'
                obtain rfl := Option.some.inj hy'
                replace f0 := Later.cell f0
                have hf := headAt_order (n := xs.length) Hx.out hk0 hy hlt
                have Hf := Lib.hid hf
                have hle : (Op.bytesLess x.name y.name || x.name == y.name) = true := leS hlt
                clear hy hf f1 hlt
                repeat (go_big_quiet_step (((first | (go_at_call 28; with_reducible exact Calls.later_same (cn _)) | (go_at_call 16; with_reducible exact Calls.later_same (ce _))))))
                (refine wpQuiet_nil ?_; intro _ hw'; obtain ⟨⟨w10, hb9'⟩, hw''⟩ := hw'; subst hw''; try dsimp only)
                go_wp2
                go_ret
                exact ⟨ret_bool (by rw [Hv.out, headsOk_false hln Hf.out]; simp), hb3.trans (hb9'.mono hb3.size)⟩
              · have H3 : Hid (∀ g, 0 < l → hs[l - 1]? = some g → ltS g.name x.name = true) := Lib.hid (fun g hk0 hg => by
                  cases hl : ltS g.name x.name with
                  | true => rfl
                  | false => exact absurd ⟨hk0, g, hg, hl⟩ t6)
                clear t6
                have hcase : (decide (0 < l) = false) ∨ ((1 : Int) ≤ (l : Int) ∧ decide (0 < l) = true ∧ (l : Int) - 1 < (hs.length : Int) ∧ ∃ (y : Str), (∀ u : Later wi, u.val.cell? ⟨b1, o1 + (l - 1) * 2, none⟩ = some (.string ⟨y.toArray⟩)) ∧ (Op.bytesLess x.name y || x.name == y) = false) := by
                  by_cases hk0 : 0 < l
                  · right
                    obtain ⟨b3, o3, y, hb3', _, _, hy, f0, f1⟩ := Heads.at HW (k := l - 1) (by omega)
                    simp only [Option.some.injEq, Addr.mk.injEq, and_true] at hb3'
                    obtain ⟨rfl, rfl⟩ := hb3'
                    exact ⟨by omega, by simpa using hk0, by omega, y.name, Later.cell f0, leS_no (H3.out y hk0 hy)⟩
                  · left; simpa using hk0
                have hyes := headAt_yes Hx.out t1 t2 H3.out
                have Hyes := Lib.hid hyes
                clear hyes HW
                rcases hcase with q5 | ⟨q6, q5, q7, y, f0, hle⟩
                all_goals
                  repeat (go_big_quiet_step (((first | (go_at_call 28; with_reducible exact Calls.later_same (cn _)) | (go_at_call 16; with_reducible exact Calls.later_same (ce _))))))
                  (refine wpQuiet_nil ?_; intro _ hw'; obtain ⟨⟨w10, hb9'⟩, hw''⟩ := hw'; subst hw''; try dsimp only)
                  go_wp2
                  go_roundw
                  case rel => exact ⟨l + 1, by omega, by go_num, Lib.hid (fun j hj => by
                    by_cases e : j = l
                    · rw [e]; exact Hyes.out
                    · exact ht2.out j (by omega)), hb2.trans (hb9'.mono hb2.size)⟩
                  case measure => simp [intOf]; omega
        · obtain rfl : l = hs.length := by omega
          have hv2 := headsOk_all ht2.out
          have Hv2 := Lib.hid hv2
          clear hv2
          by_cases h16 : (xs.length : Int) ≤ 16
          · have h16d : decide ((xs.length : Int) ≤ 16) = true := by simpa using h16
            by_cases h5 : (hs.length : Int) ≤ 5
            · have h5d : decide ((hs.length : Int) ≤ 5) = true := by simpa using h5
              go_wp2
              go_ret
              exact ⟨ret_bool (by rw [Hv.out, Hv2.out]; simp; omega), hb3⟩
            · have h5d : decide ((hs.length : Int) ≤ 5) = false := by simpa using h5
              go_wp2
              go_ret
              exact ⟨ret_bool (by rw [Hv.out, Hv2.out]; simp; omega), hb3⟩
          · have h16d : decide ((xs.length : Int) ≤ 16) = false := by simpa using h16
            go_wp2
            go_ret
            exact ⟨ret_bool (by rw [Hv.out]; simp; omega), hb3⟩

end Go.Proofs.YtifeflneodmmlaaDoor
