/- Several of my texts in one: Repo2, Anc. -/
import Derived.Test.YtenkceeicmfjhaaGreatDoorZ12
import Derived.Test.YtenkceeicmfjhaaGreatDoorZ29
import Derived.Test.YtenkceeicmfjhaaGreatDoorZ09
import Derived.Test.YtenkceeicmfjhaaGreatDoorZ11
/- Walk: the reference's l7Ok, RepoOk. -/
namespace Go.Proofs.YtenkceeicmfjhaaGreatDoor
open Go.RowKit

theorem commitOk_again {i l : Nat} {c : PCommit} {p : Int} (hl : 0 < l) (hp : c.parents[l]? = some p) (h0 : c.parents[0]? = some p) : commitOk i c = false := by
  have hlen := (List.getElem?_eq_some_iff.1 hp).1
  by_cases h2 : 2 < c.parents.length
  · exact commitOk_long h2
  · obtain rfl : l = 1 := by omega
    exact commitOk_twin (by omega) (by rw [h0, hp])

set_option maxRecDepth 100000 in
set_option maxHeartbeats 4000000 in
theorem spec_l7Ok_any (r : PRepo) (A0 A1 : Option Addr) (n0 c0 n1 c1 : Nat) (w : World) (lo hi : Nat) (h0 : Rep w lo hi (encCommits r.commits) (.slice A0 n0 c0)) (h1 : Rep w lo hi (encHeads r.heads) (.slice A1 n1 c1)) (hh : hi ≤ w.heap.size) (hr : okRepoS r) :
    Calls Tryz.prog 15 #[.agg #[.slice A0 n0 c0, .slice A1 n1 c1]] w fun e w' => e = .returned (.bool (repoOk r)) ∧ Below w.heap.size w w' := by
  obtain ⟨rn0, rn1, rc, rh⟩ := hr
  have hl0 := Commits.n h0
  have hl1 := Heads.n h1
  obtain ⟨hc0, hm0⟩ := Commits.cap h0
  obtain ⟨hc1, hm1⟩ := Heads.cap h1
  subst hl0 hl1
  obtain ⟨xs, hs⟩ := r
  dsimp only at *
  have Hs := Lib.hid rc
  have Hh := Lib.hid rh
  clear rc rh
  go_enter Tryz.func15, Tryz.ntmps15
  go_wp2
  refine name_world ?_
  intro W0 hW0
  have hb0 : Below w.heap.size w W0 := by rw [hW0]; exact (Below.refl _ _).alloc (Nat.le_refl _) _
  have q0 : W0.cell? ⟨w.heap.size, 0, none⟩ = some (.slice A0 xs.length c0) := by rw [hW0]; simp [go_sem]
  have q1 : W0.cell? ⟨w.heap.size, 1, none⟩ = some (.slice A1 hs.length c1) := by rw [hW0]; simp [go_sem]
  have hs0 : w.heap.size < W0.heap.size := by rw [hW0]; simp
  have hh0 : hi ≤ W0.heap.size := by omega
  replace h0 := h0.keep hb0 hh
  replace h1 := h1.keep hb0 hh
  clear hW0
  go_loopw [3] (fun i wr => ∃ k : Nat, k ≤ xs.length ∧ i = .int .i64 k ∧ Hid (∀ j, j < k → commitAt xs j = true) ∧ Below W0.heap.size W0 wr) (fun i _ => xs.length - (intOf i).toNat)
  case atStart => exact ⟨0, Nat.zero_le _, rfl, Lib.hid (fun j hj => absurd hj (by omega)), Below.refl _ _⟩
  case round =>
    obtain ⟨k, hk, rfl, ht, hb⟩ := hrel
    have hsz := hb.size
    have hbw : Below w.heap.size w wr := hb0.trans (hb.mono hb0.size)
    have q0r : wr.cell? ⟨w.heap.size, 0, none⟩ = some (.slice A0 xs.length c0) := (hb.cell (by exact hs0)).trans q0
    have q1r : wr.cell? ⟨w.heap.size, 1, none⟩ = some (.slice A1 hs.length c1) := (hb.cell (by exact hs0)).trans q1
    by_cases hkn : k < xs.length
    · have hkn' : (k : Int) < (xs.length : Int) := by omega
      obtain ⟨wo, rfl⟩ : ∃ wo : World, wo = wr := ⟨_, rfl⟩
      obtain ⟨b1, o1, x, rfl, _, hbhi, hx, B0, m0, e0, B2, m2, e2, d0, r0, d1, d2, r2⟩ := Commits.at (h0.keep hb hh0) hkn
      obtain ⟨sx, sx2, sx3⟩ := Hs.out x (List.mem_of_getElem? hx)
      have hca := commitAt_eq hx
      have Hca := Lib.hid hca
      have hn0 := Ints.n r0
      obtain ⟨hpc, hpm⟩ := Ints.cap r0
      subst hn0
      clear hx hca
      go_wp2
      refine name_world ?_
      intro W hW
      have hbr : Below wo.heap.size wo W := by rw [hW]; exact (Below.refl _ _).alloc (Nat.le_refl _) _
      have hbW : Below W0.heap.size W0 W := hb.trans (hbr.mono hsz)
      have hho : hi ≤ wo.heap.size := by omega
      have p0 : W.cell? ⟨wo.heap.size, 0, none⟩ = some (.slice B0 x.parents.length e0) := by rw [hW]; simp [go_sem]
      have p1 : W.cell? ⟨wo.heap.size, 1, none⟩ = some (.string ⟨x.who.toArray⟩) := by rw [hW]; simp [go_sem]
      have p2 : W.cell? ⟨wo.heap.size, 2, none⟩ = some (.slice B2 m2 e2) := by rw [hW]; simp [go_sem]
      have hoW : wo.heap.size < W.heap.size := by rw [hW]; simp
      have R0 := r0.keep hbr hho
      have R2 := r2.keep hbr hho
      have hhW : hi ≤ W.heap.size := by omega
      clear hW d0 d1 d2 r0 r2 q0r q1r
      go_loopw [5] (fun i wr => ∃ l : Nat, l ≤ x.parents.length ∧ i = .int .i64 l ∧ Hid (∀ j p, j < l → x.parents[j]? = some p → inRange p 0 ((k : Int) - 1) = true ∧ (0 < j → x.parents[0]? ≠ some p)) ∧ Below W.heap.size W wr) (fun i _ => x.parents.length - (intOf i).toNat)
      case atStart => exact ⟨0, Nat.zero_le _, rfl, Lib.hid (fun j p hj => absurd hj (by omega)), Below.refl _ _⟩
      case round =>
        obtain ⟨l, hl, rfl, ht2, hb2⟩ := hrel
        have hs2 := hb2.size
        have hb3 : Below W0.heap.size W0 wr := hbW.trans (hb2.mono hbW.size)
        by_cases hln : l < x.parents.length
        · have hln' : (l : Int) < (x.parents.length : Int) := by omega
          obtain ⟨wi, rfl⟩ : ∃ wi : World, wi = wr := ⟨_, rfl⟩
          obtain ⟨b5, o5, q, rfl, _, _, hq, f5⟩ := Ints.at (R0.keep hb2 hhW) hln
          obtain ⟨b6, o6, qz, hB6, _, _, hqz, f6⟩ := Ints.at (R0.keep hb2 hhW) (k := 0) (by omega)
          simp only [Option.some.injEq, Addr.mk.injEq, and_true] at hB6
          obtain ⟨rfl, rfl⟩ := hB6
          simp only [Nat.add_zero] at f6
          have g20 : (0 : Int) < (x.parents.length : Int) := by omega
          have p0p := (hb2.cell (by exact hoW)).trans p0
          have p0r := Later.cell (w := wi) p0p
          have hin := fun (u : Later wi) => spec_l1In_any q 0 ((k : Int) - 1) u.val
          have Hq := Lib.hid hq
          have Hqz := Lib.hid hqz
          have hne : ∀ q', x.parents[l]? = some q' → q' = q := fun q' h => by rw [Hq.out] at h; exact (Option.some.inj h).symm
          have Hne := Lib.hid hne
          replace f5 := Later.cell f5
          replace f6 := Later.cell f6
          clear hq hqz hne
          cases tb : inRange q 0 ((k : Int) - 1)
          · rw [tb] at hin
            go_wp2
            refine wp_region_later_lit (by kernel_rfl) (by kernel_rfl) ?_; try simp only [List.append_eq, List.cons_append, List.nil_append]
            repeat (go_big_quiet_step (((go_at_call 16; with_reducible exact Calls.later_same (hin _)))))
            (refine wpQuiet_nil ?_; intro _ hw'; obtain ⟨⟨w10, hb9'⟩, hw''⟩ := hw'; subst hw''; try dsimp only)
            go_wp2
            go_ret
            exact ⟨ret_bool (repoOk_commit (r := ⟨xs, hs⟩) hkn (Hca.out.trans (commitOk_parent Hq.out tb))).symm, hb0.trans ((hb3.trans (hb9'.mono hb3.size)).mono hb0.size)⟩
          · rw [tb] at hin
            by_cases hl0 : 0 < l
            · have q5 : decide (0 < l) = true := by simp; omega
              have q5' : decide ((0 : Int) < (l : Int)) = true := by simp; omega
              by_cases hqq : q = qz
              · subst hqq
                have hpp : (q == q) = true := by simp
                go_wp2
                refine wp_region_later_lit (by kernel_rfl) (by kernel_rfl) ?_; try simp only [List.append_eq, List.cons_append, List.nil_append]
                repeat (go_big_quiet_step (((go_at_call 16; with_reducible exact Calls.later_same (hin _)))))
                (refine wpQuiet_nil ?_; intro _ hw'; obtain ⟨⟨w10, hb9'⟩, hw''⟩ := hw'; subst hw''; try dsimp only)
                go_wp2
                go_ret
                exact ⟨ret_bool (repoOk_commit (r := ⟨xs, hs⟩) hkn (Hca.out.trans (commitOk_again hl0 Hq.out Hqz.out))).symm, hb0.trans ((hb3.trans (hb9'.mono hb3.size)).mono hb0.size)⟩
              · have hpp : (q == qz) = false := by simpa using hqq
                have Hqq := Lib.hid hqq
                clear hqq
                go_wp2
                refine wp_region_later_lit (by kernel_rfl) (by kernel_rfl) ?_; try simp only [List.append_eq, List.cons_append, List.nil_append]
                repeat (go_big_quiet_step (((go_at_call 16; with_reducible exact Calls.later_same (hin _)))))
                (refine wpQuiet_nil ?_; intro _ hw'; obtain ⟨⟨w10, hb9'⟩, hw''⟩ := hw'; subst hw''; try dsimp only)
                go_wp2
                go_roundw
                case rel => exact ⟨l + 1, by omega, by go_num, Lib.hid (fun j p hj hp => by
                  by_cases e : j = l
                  · subst e
                    rw [Hne.out p hp]
                    exact ⟨tb, fun _ h => Hqq.out (by rw [Hqz.out] at h; exact (Option.some.inj h).symm)⟩
                  · exact ht2.out j p (by omega) hp), hb2.trans (hb9'.mono hb2.size)⟩
                case measure => simp [intOf]; omega
            · have q5 : decide (0 < l) = false := by simp; omega
              have q5' : decide ((0 : Int) < (l : Int)) = false := by simp; omega
              go_wp2
              refine wp_region_later_lit (by kernel_rfl) (by kernel_rfl) ?_; try simp only [List.append_eq, List.cons_append, List.nil_append]
              repeat (go_big_quiet_step (((go_at_call 16; with_reducible exact Calls.later_same (hin _)))))
              (refine wpQuiet_nil ?_; intro _ hw'; obtain ⟨⟨w10, hb9'⟩, hw''⟩ := hw'; subst hw''; try dsimp only)
              go_wp2
              go_roundw
              case rel => exact ⟨l + 1, by omega, by go_num, Lib.hid (fun j p hj hp => by
                by_cases e : j = l
                · subst e
                  rw [Hne.out p hp]
                  exact ⟨tb, fun h => absurd h hl0⟩
                · exact ht2.out j p (by omega) hp), hb2.trans (hb9'.mono hb2.size)⟩
              case measure => simp [intOf]; omega
        · obtain rfl : l = x.parents.length := by omega
          have hall : (x.parents.all fun p => inRange p 0 ((k : Int) - 1)) = true := by
            rw [List.all_eq_true]
            intro p hp
            obtain ⟨j, hj⟩ := List.getElem?_of_mem hp
            exact (ht2.out j p (List.getElem?_eq_some_iff.1 hj).1 hj).1
          have htw : ¬ (x.parents.length = 2 ∧ x.parents[0]? = x.parents[1]?) := by
            rintro ⟨e2, e3⟩
            obtain ⟨p, hp⟩ : ∃ p, x.parents[1]? = some p := ⟨_, List.getElem?_eq_getElem (by omega)⟩
            exact (ht2.out 1 p (by omega) hp).2 (by omega) (by rw [e3, hp])
          have p0r := (hb2.cell (by exact hoW)).trans p0
          have p1r := (hb2.cell (by exact hoW)).trans p1
          have p2r := (hb2.cell (by exact hoW)).trans p2
          have cn := fun w => spec_l4Name_any x.who w sx.2.1
          have ct := spec_l4Ok_any B2 m2 e2 x.tree wr _ _ (R2.keep hb2 hhW) (by omega) sx2
          have Hall := Lib.hid hall
          have Htw := Lib.hid htw
          clear hall htw p0 p1 p2 R0 R2
          by_cases g1 : 2 < x.parents.length
          · have g1' : (2 : Int) < (x.parents.length : Int) := by omega
            have hf := commitOk_long (i := k) g1
            have Hf := Lib.hid hf
            clear hf
            go_wp2
            go_ret
            exact ⟨ret_bool (repoOk_commit (r := ⟨xs, hs⟩) hkn (Hca.out.trans Hf.out)).symm, hb0.trans (hb3.mono hb0.size)⟩
          · have g1' : ¬ (2 : Int) < (x.parents.length : Int) := by omega
            cases t1 : nameOk x.who
            · rw [t1] at cn
              have hf := commitOk_name (i := k) t1
              have Hf := Lib.hid hf
              clear hf
              go_wp2_with fail
              refine Calls.mono (cn _) ?_
              rintro e w' ⟨rfl, rfl⟩
              go_wp2
              go_ret
              exact ⟨ret_bool (repoOk_commit (r := ⟨xs, hs⟩) hkn (Hca.out.trans Hf.out)).symm, hb0.trans (hb3.mono hb0.size)⟩
            · rw [t1] at cn
              cases t2 : treeOk x.tree
              · rw [t2] at ct
                have hf := commitOk_tree (i := k) t2
                have Hf := Lib.hid hf
                clear hf
                go_wp2_with fail
                refine Calls.mono (cn _) ?_
                rintro e w' ⟨rfl, rfl⟩
                go_wp2_with fail
                refine Calls.mono ct ?_
                rintro e w4 ⟨rfl, hb4⟩
                go_wp2
                go_ret
                exact ⟨ret_bool (repoOk_commit (r := ⟨xs, hs⟩) hkn (Hca.out.trans Hf.out)).symm, hb0.trans ((hb3.trans (hb4.mono hb3.size)).mono hb0.size)⟩
              · rw [t2] at ct
                have hyes := Hca.out.trans (commitOk_yes g1 Htw.out t1 t2 Hall.out)
                have Hyes := Lib.hid hyes
                clear hyes
                go_wp2_with fail
                refine Calls.mono (cn _) ?_
                rintro e w' ⟨rfl, rfl⟩
                go_wp2_with fail
                refine Calls.mono ct ?_
                rintro e w4 ⟨rfl, hb4⟩
                go_wp2
                go_roundw
                case rel => exact ⟨k + 1, by omega, by go_num, Lib.hid (fun j hj => by
                  by_cases e : j = k
                  · rw [e]; exact Hyes.out
                  · exact ht.out j (by omega)), hb3.trans (hb4.mono hb3.size)⟩
                case measure => simp [intOf]; omega
    · obtain rfl : k = xs.length := by omega
      have hv := repoOk_heads (r := ⟨xs, hs⟩) ht.out
      have Hv := Lib.hid hv
      clear hv
      obtain ⟨wo, rfl⟩ : ∃ wo : World, wo = wr := ⟨_, rfl⟩
      have hho : hi ≤ wo.heap.size := by omega
      have H1 := h1.keep hb hh0
      have hsb : w.heap.size < wo.heap.size := by omega
      go_wp2
      go_loopw [6] (fun i wr => ∃ l : Nat, l ≤ hs.length ∧ i = .int .i64 l ∧ Hid (∀ j, j < l → headAt xs.length hs j = true) ∧ Below wo.heap.size wo wr) (fun i _ => hs.length - (intOf i).toNat)
      case atStart => exact ⟨0, Nat.zero_le _, rfl, Lib.hid (fun j hj => absurd hj (by omega)), Below.refl _ _⟩
      case round =>
        obtain ⟨l, hl, rfl, ht2, hb2⟩ := hrel
        have hs2 := hb2.size
        have hb3 : Below w.heap.size w wr := hbw.trans (hb2.mono hbw.size)
        have q0w : wr.cell? ⟨w.heap.size, 0, none⟩ = some (.slice A0 xs.length c0) := (hb2.cell (by exact hsb)).trans q0r
        have q1w : wr.cell? ⟨w.heap.size, 1, none⟩ = some (.slice A1 hs.length c1) := (hb2.cell (by exact hsb)).trans q1r
        by_cases hln : l < hs.length
        · have hln' : (l : Int) < (hs.length : Int) := by omega
          obtain ⟨wi, rfl⟩ : ∃ wi : World, wi = wr := ⟨_, rfl⟩
          have HW := H1.keep hb2 hho
          obtain ⟨b1, o1, x, rfl, _, hbhi, hx, d0, d1⟩ := Heads.at HW hln
          have sx := Hh.out x (List.mem_of_getElem? hx)
          have Hx := Lib.hid hx
          have cn := fun u : Later wi => spec_l4Name_any x.name u.val sx.1
          have ce := fun u : Later wi => spec_l1In_any x.at_ 0 ((xs.length : Int) - 1) u.val
          have q0l := Later.cell q0w
          have q1l := Later.cell q1w
          replace d0 := Later.cell d0
          replace d1 := Later.cell d1
          clear hx
          go_wp2
          refine wp_region_later_lit (by kernel_rfl) (by kernel_rfl) ?_; try simp only [List.append_eq, List.cons_append, List.nil_append]
          cases t1 : nameOk x.name
          · rw [t1] at cn
            repeat (go_big_quiet_step (((first | (go_at_call 36; with_reducible exact Calls.later_same (cn _)) | (go_at_call 16; with_reducible exact Calls.later_same (ce _))))))
            (refine wpQuiet_nil ?_; intro _ hw'; obtain ⟨⟨w10, hb9'⟩, hw''⟩ := hw'; subst hw''; try dsimp only)
            go_wp2
            go_ret
            exact ⟨ret_bool (by rw [Hv.out, headsOk_false hln (headAt_name Hx.out t1)]; simp), hb3.trans (hb9'.mono hb3.size)⟩
          · rw [t1] at cn
            cases t2 : inRange x.at_ 0 ((xs.length : Int) - 1)
            · rw [t2] at ce
              repeat (go_big_quiet_step (((first | (go_at_call 36; with_reducible exact Calls.later_same (cn _)) | (go_at_call 16; with_reducible exact Calls.later_same (ce _))))))
              (refine wpQuiet_nil ?_; intro _ hw'; obtain ⟨⟨w10, hb9'⟩, hw''⟩ := hw'; subst hw''; try dsimp only)
              go_wp2
              go_ret
              exact ⟨ret_bool (by rw [Hv.out, headsOk_false hln (headAt_at Hx.out t2)]; simp), hb3.trans (hb9'.mono hb3.size)⟩
            · rw [t2] at ce
              by_cases t6 : 0 < l ∧ ∃ y, hs[l - 1]? = some y ∧ ltS y.name x.name = false
              · obtain ⟨hk0, y, hy, hlt⟩ := t6
                have q5 : decide (0 < l) = true := by simp; omega
                have q6 : (1 : Int) ≤ (l : Int) := by omega
                have q7 : (l : Int) - 1 < (hs.length : Int) := by omega
                obtain ⟨b3, o3, y', hb3', _, _, hy', f0, f1⟩ := Heads.at HW (k := l - 1) (by omega)
                simp only [Option.some.injEq, Addr.mk.injEq, and_true] at hb3'
                obtain ⟨rfl, rfl⟩ := hb3'
                rw [hy] at hy'
                obtain rfl := Option.some.inj hy'
                replace f0 := Later.cell f0
                have hf := headAt_order (n := xs.length) Hx.out hk0 hy hlt
                have Hf := Lib.hid hf
                have hle : (Op.bytesLess x.name y.name || x.name == y.name) = true := leS hlt
                clear hy hf f1 hlt
                repeat (go_big_quiet_step (((first | (go_at_call 36; with_reducible exact Calls.later_same (cn _)) | (go_at_call 16; with_reducible exact Calls.later_same (ce _))))))
                (refine wpQuiet_nil ?_; intro _ hw'; obtain ⟨⟨w10, hb9'⟩, hw''⟩ := hw'; subst hw''; try dsimp only)
                go_wp2
                go_ret
                exact ⟨ret_bool (by rw [Hv.out, headsOk_false hln Hf.out]; simp), hb3.trans (hb9'.mono hb3.size)⟩
              · have H3 : Hid (∀ g, 0 < l → hs[l - 1]? = some g → ltS g.name x.name = true) := Lib.hid (fun g hk0 hg => by
                  cases hl : ltS g.name x.name with
                  | true => rfl
                  | false => exact absurd ⟨hk0, g, hg, hl⟩ t6)
                clear t6
                have hcase : (decide (0 < l) = false) ∨ ((1 : Int) ≤ (l : Int) ∧ decide (0 < l) = true ∧ (l : Int) - 1 < (hs.length : Int) ∧ ∃ (y : Str), (∀ u : Later wi, u.val.cell? ⟨b1, o1 + (l - 1) * 2, none⟩ = some (.string ⟨y.toArray⟩)) ∧ (Op.bytesLess x.name y || x.name == y) = false) := by
                  by_cases hk0 : 0 < l
                  · right
                    obtain ⟨b3, o3, y, hb3', _, _, hy, f0, f1⟩ := Heads.at HW (k := l - 1) (by omega)
                    simp only [Option.some.injEq, Addr.mk.injEq, and_true] at hb3'
                    obtain ⟨rfl, rfl⟩ := hb3'
                    exact ⟨by omega, by simpa using hk0, by omega, y.name, Later.cell f0, leS_no (H3.out y hk0 hy)⟩
                  · left; simpa using hk0
                have hyes := headAt_yes Hx.out t1 t2 H3.out
                have Hyes := Lib.hid hyes
                clear hyes HW
                rcases hcase with q5 | ⟨q6, q5, q7, y, f0, hle⟩
                all_goals
                  repeat (go_big_quiet_step (((first | (go_at_call 36; with_reducible exact Calls.later_same (cn _)) | (go_at_call 16; with_reducible exact Calls.later_same (ce _))))))
                  (refine wpQuiet_nil ?_; intro _ hw'; obtain ⟨⟨w10, hb9'⟩, hw''⟩ := hw'; subst hw''; try dsimp only)
                  go_wp2
                  go_roundw
                  case rel => exact ⟨l + 1, by omega, by go_num, Lib.hid (fun j hj => by
                    by_cases e : j = l
                    · rw [e]; exact Hyes.out
                    · exact ht2.out j (by omega)), hb2.trans (hb9'.mono hb2.size)⟩
                  case measure => simp [intOf]; omega
        · obtain rfl : l = hs.length := by omega
          have hv2 := headsOk_all ht2.out
          have Hv2 := Lib.hid hv2
          clear hv2
          by_cases h16 : (xs.length : Int) ≤ 16
          · have h16d : decide ((xs.length : Int) ≤ 16) = true := by simpa using h16
            by_cases h5 : (hs.length : Int) ≤ 5
            · have h5d : decide ((hs.length : Int) ≤ 5) = true := by simpa using h5
              go_wp2
              go_ret
              exact ⟨ret_bool (by rw [Hv.out, Hv2.out]; simp; omega), hb3⟩
            · have h5d : decide ((hs.length : Int) ≤ 5) = false := by simpa using h5
              go_wp2
              go_ret
              exact ⟨ret_bool (by rw [Hv.out, Hv2.out]; simp; omega), hb3⟩
          · have h16d : decide ((xs.length : Int) ≤ 16) = false := by simpa using h16
            go_wp2
            go_ret
            exact ⟨ret_bool (by rw [Hv.out]; simp; omega), hb3⟩

end Go.Proofs.YtenkceeicmfjhaaGreatDoor

/- Walks: the commits from which one comes: the program's ancestors, listOf, the reference's l8All. -/
namespace Go.Proofs.YtenkceeicmfjhaaGreatDoor
open Go.RowKit

/-- The commits ahead of one. -/
def parsOf (cs : List PCommit) (i : Nat) : List Int := ((cs[i]?).map PCommit.parents).getD []
def setPs (m : List Bool) (ps : List Int) : List Bool := ps.foldl (fun m p => m.set p.toNat true) m
def ancStep (cs : List PCommit) (i : Nat) (m : List Bool) : List Bool := if m.getD i false then setPs m (parsOf cs i) else m
def ancFrom (cs : List PCommit) : Nat → List Bool → List Bool
  | 0, m => m
  | i + 1, m => ancFrom cs i (ancStep cs i m)
def ancs (cs : List PCommit) (a : Nat) : List Bool := ancFrom cs (a + 1) ((List.replicate cs.length false).set a true)
theorem setPs_len (ps : List Int) : ∀ m : List Bool, (setPs m ps).length = m.length := by
  unfold setPs
  induction ps with
  | nil => intro m; rfl
  | cons p ps ih => intro m; rw [List.foldl_cons, ih]; simp
theorem setPs_snoc (m : List Bool) (ps : List Int) (p : Int) : setPs m (ps ++ [p]) = (setPs m ps).set p.toNat true := by unfold setPs; rw [List.foldl_append]; rfl
theorem ancStep_len (cs : List PCommit) (i : Nat) (m : List Bool) : (ancStep cs i m).length = m.length := by unfold ancStep; split <;> simp [setPs_len]
theorem ancFrom_len (cs : List PCommit) : ∀ (i : Nat) (m : List Bool), (ancFrom cs i m).length = m.length
  | 0, m => rfl
  | i + 1, m => by rw [ancFrom, ancFrom_len, ancStep_len]
theorem ancs_len (cs : List PCommit) (a : Nat) : (ancs cs a).length = cs.length := by unfold ancs; rw [ancFrom_len]; simp
/-- A commit's own mark stays while those ahead of it are marked. -/
theorem setPs_keep {i : Nat} : ∀ (ps : List Int) (m : List Bool), (∀ p ∈ ps, p.toNat ≠ i) → (setPs m ps)[i]? = m[i]?
  | [], m, _ => rfl
  | p :: ps, m, h => by
    show (setPs (m.set p.toNat true) ps)[i]? = m[i]?
    rw [setPs_keep ps _ (fun q hq => h q (by simp [hq])), List.getElem?_set_ne (h p (by simp))]
theorem parsOf_eq {cs : List PCommit} {i : Nat} {c : PCommit} (h : cs[i]? = some c) : parsOf cs i = c.parents := by unfold parsOf; rw [h]; rfl
theorem pars_range {cs : List PCommit} {i : Nat} {c : PCommit} (h : cs[i]? = some c) (hk : commitAt cs i = true) : ∀ p ∈ c.parents, 0 ≤ p ∧ p ≤ (i : Int) - 1 := by
  rw [commitAt_eq h] at hk
  unfold commitOk at hk
  simp only [Bool.and_eq_true, List.all_eq_true] at hk
  intro p hp
  have := hk.2.2.2.2 p hp
  simpa [inRange] using this

/-- Which are marked, ascending. -/
def idxTo (m : List Bool) (k : Nat) : List Int := ((List.range k).filter fun i => m.getD i false).map fun (i : Nat) => (i : Int)
def idxOf (m : List Bool) : List Int := idxTo m m.length
theorem idxTo_next (m : List Bool) (k : Nat) : idxTo m (k + 1) = idxTo m k ++ (if m.getD k false then [(k : Int)] else []) := by
  unfold idxTo
  rw [List.range_succ, List.filter_append, List.map_append]
  congr 1
  simp only [List.filter_cons, List.filter_nil]
  cases h : m.getD k false <;> rfl
theorem idxTo_len (m : List Bool) (k : Nat) : (idxTo m k).length ≤ k := by
  unfold idxTo
  rw [List.length_map]
  exact Nat.le_trans (List.length_filter_le _ _) (by simp)

theorem Tryz.infoBool : (Tryz.prog.info? 4).map (fun i => (i.zero, i.size, i.bytes)) = some (some (.bool false), 1, 1) := by kernel_rfl
theorem Tryz.infoIntA : (Tryz.prog.info? 3).map (fun i => (i.zero, i.size, i.bytes)) = some (some (.int .i64 0), 1, 8) := by kernel_rfl
theorem owns_bools (w : World) : ∀ xs : List Bool, Owns w (xs.flatMap cBools) (xs.map fun s => .bool s) []
  | [] => ⟨rfl, rfl⟩
  | _ :: xs => ⟨_, _, [], [], rfl, rfl, ⟨rfl, rfl⟩, owns_bools w xs⟩
theorem row_set {m : List Bool} {p : Nat} : ((m.map fun s => (.bool s : Value)).set p (.bool true)) = (m.set p true).map fun s => .bool s := by
  rw [List.map_set]
theorem getD_some {m : List Bool} {k : Nat} {b : Bool} (h : m[k]? = some b) : m.getD k false = b := by simp [List.getD, h]

set_option maxRecDepth 100000 in
set_option maxHeartbeats 1600000 in
theorem impl_listOf_any (A : Option Addr) (n c : Nat) (m : List Bool) (w : World) (lo hi : Nat) (h : Rep w lo hi (encBools m) (.slice A n c)) (hh : hi ≤ w.heap.size) (hm8 : m.length ≤ 1048576) :
    Calls Tryz.prog 72 #[.slice A n c] w fun e w' => ∃ A n c, e = .returned (.slice A n c) ∧ Below w.heap.size w w' ∧ Fresh w' w.heap.size w'.heap.size (encInts (idxOf m)) (.slice A n c) := by
  have hl := Bools.n h
  obtain ⟨hc, hm⟩ := Bools.cap h
  subst hl
  obtain ⟨ii, gi0, gi1, gi2, gi3⟩ := info_parts Tryz.infoIntA
  go_enter Tryz.func72, Tryz.ntmps72
  go_wp2
  go_loopw [3, 8] (fun t i wr => ∃ (k : Nat) (A' : Option Addr) (n' c' : Nat), k ≤ m.length ∧ i = .int .i64 k ∧ t = .slice A' n' c' ∧ n' = (idxTo m k).length ∧
      wr.ownsRow w.heap.size 3 1 (.slice A' n' c') n' ((idxTo m k).map fun x => .int .i64 x) ∧ Below w.heap.size w wr) (fun _ i _ => m.length - (intOf i).toNat)
  case atStart => exact ⟨0, none, 0, 0, Nat.zero_le _, rfl, rfl, by simp [idxTo], by simpa [idxTo] using World.ownsRow_nil w _ _ _, Below.refl _ _⟩
  case round =>
    obtain ⟨k, A', n', c', hk, rfl, rfl, hn', hown, hb⟩ := hrel
    have hsz := hb.size
    by_cases hkn : k < m.length
    · have hkn' : (k : Int) < (m.length : Int) := by omega
      obtain ⟨b1, o1, x, rfl, _, hbhi, hx, d0⟩ := Bools.at (h.keep hb hh) hkn
      have hstep := idxTo_next m k
      have hlen := idxTo_len m k
      rw [getD_some hx] at hstep
      obtain ⟨done, hdone⟩ : ∃ done, done = idxTo m k := ⟨_, rfl⟩
      rw [← hdone] at hn' hown hstep hlen
      subst hn'
      clear hx hdone
      cases x
      · have Hstep := Lib.hid hstep
        clear hstep
        go_wp2
        go_roundw
        case rel => exact ⟨k + 1, A', _, c', by omega, by go_num, rfl, by rw [Hstep.out]; simp, by rw [Hstep.out]; simpa using hown, hb⟩
        case measure => first | (simp [intOf]; done) | (simp [intOf]; omega)
      · have Hstep := Lib.hid hstep
        clear hstep
        go_wp2_with (at_builtin; refine wpList_append_src _ rfl (.tmp 14) (.tmp 16) _ rfl w.heap.size 3 ii _ 1 8 Tryz.underlying48 gi0 gi1 gi2 gi3 rfl (by omega) _ done.length _ rfl (hown.alloc _) _ 1 1 [.int .i64 (k : Int)] rfl (Src.lit wr 3 [.int .i64 (k : Int)] 1 1 rfl) ?e2 ?e3 ?e4 ?e5 ?_)
        case e2 => first | rfl | (intro u hu; simp at hu; subst hu; rfl)
        case e3 => unfold maxLen; omega
        case e4 => omega
        case e5 => first | omega | (simp; omega)
        intro A4 c4 w4 hown4 hg4 hat4
        have hb4 : Below w.heap.size w w4 := (hb.alloc (by omega) _).grown hg4 (by simp; omega) (fun g hg => (hown.lt g hg).1)
        go_wp2
        go_roundw
        case rel => exact ⟨k + 1, A4, _, c4, by omega, by go_num, rfl, by rw [Hstep.out]; simp, by rw [Hstep.out]; simpa using hown4, hb4⟩
        case measure => first | (simp [intOf]; done) | (simp [intOf]; omega)
    · obtain rfl : k = m.length := by omega
      subst hn'
      have hfin := (Fresh.of_row hown (owns_ints _ _))
      have Hfin := Lib.hid hfin
      clear hfin
      go_wp2
      go_ret
      exact ⟨_, _, _, rfl, hb, Hfin.out⟩

set_option maxRecDepth 100000 in
set_option maxHeartbeats 1600000 in
theorem impl_ancestors_any (r : PRepo) (A0 A1 : Option Addr) (n0 c0 n1 c1 : Nat) (w : World) (lo hi : Nat) (h0 : Rep w lo hi (encCommits r.commits) (.slice A0 n0 c0)) (hh : hi ≤ w.heap.size) (hok : repoOk r = true) (a : Nat) (ha : a < r.commits.length) :
    Calls Tryz.prog 70 #[.agg #[.slice A0 n0 c0, .slice A1 n1 c1], .int .i64 a] w fun e w' => ∃ A n c, e = .returned (.slice A n c) ∧ Below w.heap.size w w' ∧ Fresh w' w.heap.size w'.heap.size (encBools (ancs r.commits a)) (.slice A n c) := by
  have hl := Commits.n h0
  obtain ⟨hc, hm⟩ := Commits.cap h0
  subst hl
  obtain ⟨xs, hs⟩ := r
  dsimp only at *
  obtain ⟨h16, hall, _⟩ := repoOk_iff.1 hok
  dsimp only at h16 hall
  have Hall := Lib.hid hall
  clear hok hall
  obtain ⟨ib, bi0, bi1, bi2, bi3⟩ := info_parts Tryz.infoBool
  go_enter Tryz.func70, Tryz.ntmps70
  go_wp2_with (at_make; refine wpList_make_full _ rfl _ _ _ rfl (w.heap.size + 1) 4 ib _ 1 Tryz.underlying108 bi0 bi1 bi2 _ _ _ _ xs.length rfl rfl rfl rfl ?c1 ?c2 ?c3 ?_)
  case c1 => first | omega | (rw [bi3]; omega)
  case c2 => first | omega | (unfold maxLen; omega)
  try (case c3 => first | omega | (simp; done) | (simp; omega))
  intro w1 hown hg
  have hbx : Below w.heap.size w w1 := (((Below.refl _ _).alloc (Nat.le_refl _) _).grown hg (by simp) (by simp))
  have hs1 : w.heap.size + 1 < w1.heap.size := (hown.lt _ rfl).2
  have q0 : w1.cell? ⟨w.heap.size, 0, none⟩ = some (.slice A0 xs.length c0) := by
    rw [World.cell?_of_block (hg.block w.heap.size (by simp) (by simp))]; simp [go_sem]
  have hrow : w1.ownsRow (w.heap.size + 1) 4 1 (.slice (some ⟨w.heap.size + 1, 0, none⟩) xs.length xs.length) xs.length ((List.replicate xs.length false).map fun s => .bool s) := by
    have e : (madeCells #[(.bool false : Value)] xs.length).toList = (List.replicate xs.length false).map fun s => (.bool s : Value) := by
      rw [toList_madeCells_one]; simp
    rw [← e]; exact hown
  clear hown hg
  obtain ⟨m0, hm0⟩ : ∃ m0, m0 = List.replicate xs.length false := ⟨_, rfl⟩
  have hlm0 : m0.length = xs.length := by rw [hm0]; simp
  have hfin : ancFrom xs (a + 1) (m0.set a true) = ancs xs a := by rw [hm0]; rfl
  rw [← hm0] at hrow
  clear hm0
  have hcell := hrow.cellAt a (by omega)
  obtain ⟨bz, hbz⟩ : ∃ bz, m0[a]? = some bz := ⟨m0[a]'(by omega), List.getElem?_eq_getElem (by omega)⟩
  rw [List.getElem?_map, hbz] at hcell
  have hfr := hrow.frozenAt a
  have hnew := hrow.stored a (.bool true)
  rw [row_set] at hnew
  have q1 : (w1.setCell ⟨w.heap.size + 1, a, none⟩ (.bool true)).cell? ⟨w.heap.size, 0, none⟩ = some (.slice A0 xs.length c0) := by
    rw [World.cell?_of_block (hnew.2.block w.heap.size (by omega) (by simp))]; exact q0
  have Hfin := Lib.hid hfin
  have ha' : (a : Int) < (xs.length : Int) := by omega
  clear hfin hbz
  obtain ⟨m1, hm1⟩ : ∃ m1, m1 = m0.set a true := ⟨_, rfl⟩
  have hlm1 : m1.length = xs.length := by rw [hm1]; simpa using hlm0
  rw [← hm1] at hnew Hfin
  have hrow1 := hnew.1
  clear hm1 hnew hrow
  go_wp2
  refine name_world ?_
  intro W0 hW0
  have hbW : Below w.heap.size w W0 := by rw [hW0]; exact hbx.setCell (by simp) _
  have hsW : w.heap.size + 1 < W0.heap.size := by rw [hW0]; simpa using hs1
  rw [← hW0] at q1 hrow1
  clear hW0 q0 hs1 hbx hcell hfr hlm0
  go_loopw [6] (fun i wr => ∃ (k : Nat) (m : List Bool), k ≤ a + 1 ∧ i = .int .i64 ((k : Int) - 1) ∧ m.length = xs.length ∧ Hid (ancFrom xs k m = ancs xs a) ∧
      wr.ownsRow (w.heap.size + 1) 4 1 (.slice (some ⟨w.heap.size + 1, 0, none⟩) xs.length xs.length) xs.length (m.map fun s => .bool s) ∧ Below w.heap.size w wr ∧ w.heap.size + 1 < wr.heap.size ∧
      wr.cell? ⟨w.heap.size, 0, none⟩ = some (.slice A0 xs.length c0)) (fun i _ => (intOf i + 1).toNat)
  case atStart => exact ⟨a + 1, m1, Nat.le_refl _, by go_num, hlm1, Hfin, hrow1, hbW, hsW, q1⟩
  case round =>
    obtain ⟨k, m, hk, rfl, hlm, ht, hown, hb, hsz, hq⟩ := hrel
    clear hrow1 hbW hsW q1 Hfin
    obtain ⟨wo, rfl⟩ : ∃ wo : World, wo = wr := ⟨_, rfl⟩
    rcases k with _ | k
    · have hv := ht.out
      rw [ancFrom] at hv
      have hfin := (Fresh.of_row hown (owns_bools _ _)).mono (Nat.le_succ _) (Nat.le_refl _)
      rw [hv] at hfin
      have Hfin := Lib.hid hfin
      clear hfin hv
      go_wp2
      go_ret
      exact ⟨_, _, _, rfl, hb, Hfin.out⟩
    · have hka : k < xs.length := by omega
      have hka' : (k : Int) < (xs.length : Int) := by omega
      have hcell := hown.cellAt k (by omega)
      obtain ⟨bz, hbz⟩ : ∃ bz, m[k]? = some bz := ⟨m[k]'(by omega), List.getElem?_eq_getElem (by omega)⟩
      rw [List.getElem?_map, hbz] at hcell
      have hst : ancFrom xs k (ancStep xs k m) = ancs xs a := ht.out
      have Hst := Lib.hid hst
      have he : (((k + 1 : Nat) : Int) - 1) = (k : Int) := by omega
      rw [he]
      clear hst he
      cases bz
      · have hn : ancStep xs k m = m := by unfold ancStep; rw [getD_some hbz]; rfl
        have Hn := Lib.hid hn
        clear hn hbz
        go_wp2
        go_roundw
        case rel => exact ⟨k, m, by omega, by go_num, hlm, Lib.hid (Hn.out ▸ Hst.out), hown, hb, hsz, hq⟩
        case measure => first | (simp [intOf]; done) | (simp [intOf]; omega)
      · obtain ⟨b1, o1, x, rfl, hblo, hbhi, hx, B0, m0', e0, B2, m2, e2, d0, r0, d1, d2, r2⟩ := Commits.at (h0.keep hb hh) hka
        have hn : ancStep xs k m = setPs m x.parents := by unfold ancStep; rw [getD_some hbz, parsOf_eq hx]; rfl
        have Hn := Lib.hid hn
        have hpr := pars_range hx (Hall.out k hka)
        have Hpr := Lib.hid hpr
        have hn0 := Ints.n r0
        obtain ⟨hpc, hpm⟩ := Ints.cap r0
        subst hn0
        clear hn hbz hpr hx d1 d2 r2
        go_wp2
        go_loopw [32] (fun i wr => ∃ (l : Nat) (m' : List Bool), l ≤ x.parents.length ∧ i = .int .i64 l ∧ m'.length = xs.length ∧ Hid (m' = setPs m (x.parents.take l)) ∧
            wr.ownsRow (w.heap.size + 1) 4 1 (.slice (some ⟨w.heap.size + 1, 0, none⟩) xs.length xs.length) xs.length (m'.map fun s => .bool s) ∧ Below w.heap.size wo wr ∧ w.heap.size + 1 < wr.heap.size ∧
            wr.cell? ⟨w.heap.size, 0, none⟩ = some (.slice (some ⟨b1, o1, none⟩) xs.length c0)) (fun i _ => x.parents.length - (intOf i).toNat)
        case atStart => exact ⟨0, m, Nat.zero_le _, rfl, hlm, Lib.hid rfl, hown, Below.refl _ _, hsz, hq⟩
        case round =>
          clear hown hq hsz hcell
          obtain ⟨l, m', hl, rfl, hlm', ht', hown, hb', hsz, hq⟩ := hrel
          by_cases hln : l < x.parents.length
          · have hln' : (l : Int) < (x.parents.length : Int) := by omega
            obtain ⟨b5, o5, q, rfl, _, _, hqx, f5⟩ := Ints.at (r0.keep hb' hh) hln
            obtain ⟨hq0, hq1⟩ := Hpr.out q (List.mem_of_getElem? hqx)
            obtain ⟨p, rfl⟩ : ∃ p : Nat, q = p := ⟨q.toNat, by omega⟩
            have hpa : p < xs.length := by omega
            have hpa' : (p : Int) < (xs.length : Int) := by omega
            have hcell := hown.cellAt p (by omega)
            obtain ⟨bz, hbz⟩ : ∃ bz, m'[p]? = some bz := ⟨m'[p]'(by omega), List.getElem?_eq_getElem (by omega)⟩
            rw [List.getElem?_map, hbz] at hcell
            have hfr := hown.frozenAt p
            have hnew := hown.stored p (.bool true)
            rw [row_set] at hnew
            have q1 : (wr.setCell ⟨w.heap.size + 1, p, none⟩ (.bool true)).cell? ⟨w.heap.size, 0, none⟩ = some (.slice (some ⟨b1, o1, none⟩) xs.length c0) := by
              rw [World.cell?_of_block (hnew.2.block w.heap.size (by omega) (by simp))]; exact hq
            have hst : m'.set p true = setPs m (x.parents.take (l + 1)) := by
              rw [List.take_add_one, hqx, Option.toList, setPs_snoc, ← ht'.out]; rfl
            have Hst := Lib.hid hst
            have hlm2 : (m'.set p true).length = xs.length := by simpa using hlm'
            clear hst hbz hqx
            go_wp2
            go_roundw
            case rel => exact ⟨l + 1, _, by omega, by go_num, hlm2, Hst, hnew.1, hb'.setCell (by simp) _, by simpa using hsz, q1⟩
            case measure => first | (simp [intOf]; done) | (simp [intOf]; omega)
          · obtain rfl : l = x.parents.length := by omega
            have hm' : m' = ancStep xs k m := by rw [Hn.out, ht'.out, List.take_length]
            have hst := Hst.out
            rw [← hm'] at hst
            have Hst' := Lib.hid hst
            clear hst hm'
            go_wp2
            go_roundw
            case rel => exact ⟨k, m', by omega, by go_num, hlm', Hst', hown, hb.trans hb', hsz, hq⟩
            case measure => first | (simp [intOf]; done) | (simp [intOf]; omega)
end Go.Proofs.YtenkceeicmfjhaaGreatDoor
