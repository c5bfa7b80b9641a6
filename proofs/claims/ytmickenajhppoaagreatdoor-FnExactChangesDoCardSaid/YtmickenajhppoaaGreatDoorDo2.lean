import Derived.Test.YtmickenajhppoaaGreatDoorZ23
/- Walk: a patch put into a text, the reference's. -/
namespace Go.Proofs.YtmickenajhppoaaGreatDoor
open Go.RowKit

/-- 't[i:i+m]', the upper bound a sum. -/
theorem Tryz.cutSum (A : Option Addr) (n c i m : Nat) (hjc : i + m ≤ c) : ∃ A', A' = (if c = i then A else A.map fun a => a.add i) ∧
    (∀ W, (Instr.sliceAt 38 (.slice A n c) (some (.int .i64 i)) (some (.int .i64 ((i : Int) + (m : Int)))) none).run Tryz.prog W = .ok (.slice A' m (c - i)) W) ∧
    (∀ W, (Instr.slice 38 (.slice A n c) (some (.int .i64 i)) (some (.int .i64 ((i : Int) + (m : Int)))) none).run Tryz.prog W = .ok (.slice A' m (c - i)) W) := by
  obtain ⟨A', e, h1, h2⟩ := Tryz.cutText A n c i (i + m) (by omega) hjc
  rw [show i + m - i = m by omega, Int.natCast_add] at *
  exact ⟨A', e, h1, h2⟩
theorem Text.cutM {w : World} {lo hi e n c : Nat} {A : Option Addr} {xs : List Str} (h : Rep w lo hi (encTextE e xs) (.slice A n c)) (i m : Nat) (hj : i + m ≤ n) :
    Rep w lo hi (encTextE e ((xs.drop i).take m)) (.slice (if c = i then A else A.map fun a => a.add i) m (c - i)) := by
  have := Text.cut h i (i + m) (by omega) hj
  rwa [show i + m - i = m by omega] at this

set_option maxRecDepth 100000 in
set_option maxHeartbeats 3200000 in
theorem spec_l2Do_any (A1 A2 : Option Addr) (n1 c1 n2 c2 : Nat) (xs : List Str) (ys : List PHunk) (w : World) (lo hi lo' hi' : Nat) (h1 : Rep w lo hi (encText xs) (.slice A1 n1 c1)) (h2 : Rep w lo' hi' (encHunks ys) (.slice A2 n2 c2))
    (hh1 : hi ≤ w.heap.size) (hh2 : hi' ≤ w.heap.size) (hs1 : ∀ s ∈ xs, s.length ≤ 9223372036854775807) (hs2 : ∀ x ∈ ys, okHunk x) (t1 : textOk xs = true) (t2 : patchOk ys = true) :
    Calls Tryz.prog 47 #[.slice A1 n1 c1, .slice A2 n2 c2] w fun e w' => ∃ A n c, e = .returned (.tuple #[.slice A n c, .bool (patchDo xs ys).isSome]) ∧ Below w.heap.size w w' ∧ Fresh w' w.heap.size w'.heap.size (encText ((patchDo xs ys).getD [])) (.slice A n c) := by
  have hl1 := Text.n h1
  have hl2 := Hunks.n h2
  obtain ⟨hc1, hm1⟩ := Text.cap h1
  obtain ⟨hc2, hm2⟩ := Hunks.cap h2
  subst hl1 hl2
  obtain ⟨is, si0, si1, si2, si3⟩ := info_parts Tryz.infoStr
  have hy := hunkOk_of_patchOk t2
  have hyl := patchOk_len t2
  have hxl := textOk_len t1
  have hhk : hunksOk ys = true := by
    have h := t2
    simp only [patchOk, Bool.and_eq_true] at h
    exact h.2
  have hres : patchDo xs ys = doFrom xs ys 0 [] := by rw [patchDo, t1, t2]; rfl
  have Hres := Lib.hid hres
  have Hhk := Lib.hid hhk
  have Hs1 := Lib.hid hs1
  have Hs2 := Lib.hid hs2
  clear hres hhk t1 t2 hs1 hs2
  go_enter Tryz.func47, Tryz.ntmps47
  go_wp2
  go_loopw [6, 7, 8] (fun t fr i wr => ∃ (k f : Nat) (out : List Str) (A' : Option Addr) (c' : Nat), k ≤ ys.length ∧ t = .slice A' out.length c' ∧ fr = .int .i64 f ∧ i = .int .i64 k ∧ f ≤ xs.length ∧ out.length ≤ 20 * k ∧
      wr.ownsRow w.heap.size 9 1 (.slice A' out.length c') out.length (out.map fun s => .string ⟨s.toArray⟩) ∧ Hid (hunksOk (ys.drop k) = true) ∧ Hid (∀ g, (ys.drop k).head? = some g → (f : Int) ≤ g.at_) ∧
      Hid (doFrom xs (ys.drop k) f out = doFrom xs ys 0 []) ∧ Hid (∀ s ∈ out, s.length ≤ 9223372036854775807) ∧ Below w.heap.size w wr) (fun _ _ i _ => ys.length - (intOf i).toNat)
  case atStart => exact ⟨0, 0, [], _, _, Nat.zero_le _, rfl, rfl, rfl, Nat.zero_le _, by simp, World.ownsRow_made w #[] 0 (Nat.le_refl _) (Nat.zero_le _) rfl, Lib.hid (by simpa using Hhk.out), Lib.hid (fun g hg => by
      have := (hunkOk_facts (hy g (List.mem_of_mem_head? (by simpa using hg)))).1
      omega), Lib.hid rfl, Lib.hid (fun s hs => by cases hs), (Below.refl _ _).alloc (Nat.le_refl _) _⟩
  case round =>
    obtain ⟨k, f, out, A', c', hk, rfl, rfl, rfl, hf, hol, hown, hhk, hhd, ht, hsm, hb⟩ := hrel
    by_cases hkn : k < ys.length
    · have hkn' : (k : Int) < (ys.length : Int) := by omega
      have hsz := hb.size
      obtain ⟨b1, o1, x, rfl, hblo, hbhi, hyk, B1, m1, e1, B2, m2, e2, d0, d1, r1, d2, r2⟩ := Hunks.at (h2.keep hb hh2) hkn
      obtain ⟨x1, x2, _, _, x3, x4, _⟩ := hunkOk_facts (hy x (List.mem_of_getElem? hyk))
      have hox := Hs2.out x (List.mem_of_getElem? hyk)
      have hdc := drop_cons hyk
      have hhk2 := hhk.out
      have hhd2 := hhd.out
      have ht2 := ht.out
      rw [hdc] at hhk2 hhd2 ht2
      obtain ⟨_, hhk3, hhd3⟩ := hunksOk_cons hhk2
      have hfa := hhd2 x rfl
      obtain ⟨at0, less, more⟩ := x
      dsimp only at *
      obtain ⟨a, rfl⟩ := Int.eq_ofNat_of_zero_le x1
      rw [doFrom] at ht2
      simp only [Int.toNat_natCast] at ht2
      have hn1 := Text.n r1
      have hn2 := Text.n r2
      subst hn1 hn2
      have hfa' : f ≤ a := by omega
      have ha10 : a ≤ 10 := by omega
      have Hhk3 := Lib.hid hhk3
      have hhd4 : ∀ g, (ys.drop (k + 1)).head? = some g → ((a + less.length : Nat) : Int) ≤ g.at_ := fun g hg => by
        have := hhd3 g hg
        unfold PHunk.stop at this
        dsimp only at this
        omega
      have Hhd4 := Lib.hid hhd4
      have Ht2 := Lib.hid ht2
      have hmo : ∀ s ∈ more, s.length ≤ 9223372036854775807 := hox.2.2
      have Hmo := Lib.hid hmo
      have hb1lt : b1 < wr.heap.size := by omega
      clear hdc hhk2 hhd2 ht2 hhk3 hhd3 hfa hyk hhk hhd ht hhd4 x1 x2 hox hmo
      go_wp2
      go_quiet (fail)
      have q0 := Later.cell (w := wr.drewN nq) d0
      have q1 := Later.cell (w := wr.drewN nq) d1
      have R1 := r1.drewN nq
      have T1 := (h1.keep hb hh1).drewN nq
      have hhr : hi' ≤ (wr.drewN nq).heap.size := Nat.le_trans hh2 hsz
      have hhx : hi ≤ (wr.drewN nq).heap.size := Nat.le_trans hh1 hsz
      by_cases hlen : xs.length < a + less.length
      · have hlen' : decide ((xs.length : Int) < (a : Int) + (less.length : Int)) = true := by simp; omega
        have hlen2 : decide (xs.length < a + less.length) = true := by simp; omega
        go_wp2
        refine wp_region_later_lit (by kernel_rfl) (by kernel_rfl) ?_; try simp only [List.append_eq, List.cons_append, List.nil_append]
        repeat (go_big_quiet_step (((fail))))
        (refine wpQuiet_nil ?_; intro _ hw'; obtain ⟨⟨w9, hb9⟩, hw''⟩ := hw'; subst hw''; try dsimp only)
        go_wp2
        go_ret2
        have hn : patchDo xs ys = none := by
          have h := Ht2.out
          rw [if_pos (by omega)] at h
          rw [Hres.out, ← h]
        rw [hn]; exact ⟨_, _, _, rfl, (below_drewN hb nq).trans (hb9.mono hsz), Fresh.nil _ _ _ _ _⟩
      · have hlen' : decide ((xs.length : Int) < (a : Int) + (less.length : Int)) = false := by simp; omega
        have hlen2 : decide (xs.length < a + less.length) = false := by simp; omega
        obtain ⟨C1, eC1, hq1, hq1'⟩ := Tryz.cutSum A1 xs.length c1 a less.length (by omega)
        have U1 := Text.cutM T1 a less.length (by omega)
        rw [← eC1] at U1
        clear eC1
        cases heq : decide ((xs.drop a).take less.length = less)
        · go_wp2
          refine wp_region_later_lit (by kernel_rfl) (by kernel_rfl) ?_; try simp only [List.append_eq, List.cons_append, List.nil_append]
          repeat (go_big_quiet_step (((go_at_call 69; with_reducible exact Calls.later_drew (spec_l1Same_any _ _ _ _ _ _ _ _ _ _ _ _ _ (U1.later hhx _) (R1.later hhr _))))))
          (refine wpQuiet_nil ?_; intro _ hw'; obtain ⟨⟨w9, hb9⟩, hw''⟩ := hw'; subst hw''; try dsimp only)
          go_wp2
          go_ret2
          have hn : patchDo xs ys = none := by
            have h := Ht2.out
            rw [if_neg (by omega), if_neg (by simpa using heq)] at h
            rw [Hres.out, ← h]
          rw [hn]; exact ⟨_, _, _, rfl, (below_drewN hb nq).trans (hb9.mono hsz), Fresh.nil _ _ _ _ _⟩
        · go_wp2
          refine wp_region_later_lit (by kernel_rfl) (by kernel_rfl) ?_; try simp only [List.append_eq, List.cons_append, List.nil_append]
          repeat (go_big_quiet_step (((go_at_call 69; with_reducible exact Calls.later_drew (spec_l1Same_any _ _ _ _ _ _ _ _ _ _ _ _ _ (U1.later hhx _) (R1.later hhr _))))))
          (refine wpQuiet_nil ?_; intro _ hw'; obtain ⟨⟨w9, hb9⟩, hw''⟩ := hw'; subst hw''; try dsimp only)
          rename World => w9
          have hb9 : Below wr.heap.size wr w9 := ⟨hb9.os, hb9.tape, hb9.output, hb9.size, hb9.block⟩
          have hstp : doFrom xs (ys.drop (k + 1)) (a + less.length) (out ++ (xs.drop f).take (a - f) ++ more) = doFrom xs ys 0 [] := by
            have h := Ht2.out
            rw [if_neg (by omega), if_pos (by simpa using heq)] at h
            exact h
          have Hstp := Lib.hid hstp
          have hs9 := hb9.size
          have hbw : Below w.heap.size w w9 := hb.trans (hb9.mono hsz)
          have hsw := hbw.size
          have g0 := (hb9.cell hb1lt).trans d0
          have g2 := (hb9.cell hb1lt).trans d2
          have S2 := r2.keep hb9 (Nat.le_trans hh2 hsz)
          have S3 := (h1.keep hb hh1).keep hb9 (Nat.le_trans hh1 hsz)
          obtain ⟨C2, eC2, hq2, hq2'⟩ := Tryz.cutText A1 xs.length c1 f a hfa' (by omega)
          have U2 := Text.cut S3 f a hfa' (by omega)
          rw [← eC2] at U2
          have hown9 := ownsRow_same (w' := w9) hown (fun q hq => hb9.block q (hown.lt q (by simpa using hq)).2)
          have hcl : ((xs.drop f).take (a - f)).length = a - f := by simp; omega
          have Hcl := Lib.hid hcl
          have hol2 : out.length ≤ 160 := by omega
          have hb1w : b1 < w.heap.size := by omega
          clear hstp eC2 q0 q1 hown U1 R1 T1 hcl hq1 hq1' d0 d1 d2
          go_wp2_with (at_builtin; refine wpList_append_src _ rfl (.tmp 50) (.tmp 58) _ rfl w.heap.size 9 is _ 1 16 Tryz.underlying38 si0 si1 si2 si3 rfl (by omega) _ out.length _ rfl hown9 _ (a - f) _ _ rfl (Text.src U2) (texts_one _) ?e3 ?e4 ?e5 ?_)
          case e3 => unfold maxLen; omega
          case e4 => omega
          case e5 => omega
          intro A5 c5 w5 hown5 hg5 _
          have hb5 : Below w.heap.size w9 w5 := (Below.refl _ _).grown hg5 hsw (fun g hg => (hown9.lt g hg).1)
          have hbw5 := hbw.trans hb5
          have k2 := (hb5.cell hb1w).trans g2
          have S5 := S2.keep hb5 hh2
          have hsw5 := hbw5.size
          clear g0 g2 hg5
          go_wp2_with (at_builtin; refine wpList_append_src _ rfl (.tmp 60) (.tmp 65) _ rfl w.heap.size 9 is _ 1 16 Tryz.underlying38 si0 si1 si2 si3 rfl (by omega) _ (out.length + (a - f)) _ rfl hown5 _ more.length _ _ rfl (Text.src S5) (texts_one _) ?e3 ?e4 ?e5 ?_)
          case e3 => unfold maxLen; omega
          case e4 => omega
          case e5 => omega
          intro A6 c6 w6 hown6 hg6 _
          have hb6 := hbw5.grown hg6 hsw5 (fun g hg => (hown5.lt g hg).1)
          have hlen6 : (out ++ (xs.drop f).take (a - f) ++ more).length = out.length + (a - f) + more.length := by simp only [List.length_append, Hcl.out]
          have hown8 : w6.ownsRow w.heap.size 9 1 (.slice A6 (out ++ (xs.drop f).take (a - f) ++ more).length c6) (out ++ (xs.drop f).take (a - f) ++ more).length ((out ++ (xs.drop f).take (a - f) ++ more).map fun s => .string ⟨s.toArray⟩) := by
            rw [hlen6]
            simpa [List.map_append, List.map_take, List.map_drop, List.append_assoc] using hown6
          have Hown := Lib.hid hown8
          have Hlen := Lib.hid hlen6
          have hsm6 : ∀ s ∈ out ++ (xs.drop f).take (a - f) ++ more, s.length ≤ 9223372036854775807 := fun s hs => by
            rcases List.mem_append.1 hs with hs | hs
            · rcases List.mem_append.1 hs with hs | hs
              · exact hsm.out s hs
              · exact Hs1.out s (List.mem_of_mem_drop (List.mem_of_mem_take hs))
            · exact Hmo.out s hs
          have Hsm6 := Lib.hid hsm6
          clear hown8 hown6 hown5 hown9 hg6 hb5 hlen6 U2 S2 S3 S5 hsm6
          go_wp2
          go_roundw
          case rel => exact ⟨k + 1, a + less.length, out ++ (xs.drop f).take (a - f) ++ more, A6, c6, by omega, by rw [Hlen.out], by go_num, by go_num, by omega, by rw [Hlen.out]; omega, Hown.out, Hhk3, Hhd4, Hstp, Hsm6, hb6⟩
          case measure => simp [intOf]; omega
    · obtain rfl : k = ys.length := by omega
      have ht2 := ht.out
      rw [List.drop_of_length_le (Nat.le_refl _), doFrom] at ht2
      have hb' := hb.size
      obtain ⟨C3, eC3, hq3, hq3'⟩ := Tryz.cutFrom A1 xs.length c1 f hf
      have U3 := Text.cut' (h1.keep hb hh1) f (xs.length - f) (by omega) (show xs.length = f + (xs.length - f) by omega)
      rw [← eC3, List.take_of_length_le (by simp)] at U3
      have Ht2 := Lib.hid ht2
      clear ht2 eC3
      go_wp2_with (at_builtin; refine wpList_append_src _ rfl (.tmp 68) (.tmp 71) _ rfl w.heap.size 9 is _ 1 16 Tryz.underlying38 si0 si1 si2 si3 rfl (by omega) _ out.length _ rfl hown _ (xs.length - f) _ _ rfl (Text.src U3) (texts_one _) ?e3 ?e4 ?e5 ?_)
      case e3 => unfold maxLen; omega
      case e4 => omega
      case e5 => omega
      intro A9 c9 w9 hown9 hg9 _
      have hb9 : Below w.heap.size w w9 := hb.grown hg9 hb' (fun g hg => (hown.lt g hg).1)
      have hF9 : Fresh w9 w.heap.size w9.heap.size (encText (out ++ xs.drop f)) (.slice A9 (out.length + (xs.length - f)) c9) :=
        Fresh.of_row hown9 (by have := owns_strs w9 (out ++ xs.drop f); simpa [List.map_append, List.map_drop] using this)
      have hsm9 : ∀ s ∈ out ++ xs.drop f, s.length ≤ 9223372036854775807 := fun s hs => by
        rcases List.mem_append.1 hs with hs | hs
        · exact hsm.out s hs
        · exact Hs1.out s (List.mem_of_mem_drop hs)
      go_wp2_with fail
      refine Calls.mono (spec_l1Ok_any _ _ _ (out ++ xs.drop f) w9 _ _ hF9.rep hsm9) ?_
      rintro e w' ⟨rfl, rfl⟩
      cases t3 : textOk (out ++ xs.drop f)
      · go_wp2
        go_ret2
        have hn : patchDo xs ys = none := by rw [Hres.out, ← Ht2.out, t3]; rfl
        rw [hn]; exact ⟨_, _, _, rfl, hb9, Fresh.nil _ _ _ _ _⟩
      · go_wp2
        go_ret2
        have hn : patchDo xs ys = some (out ++ xs.drop f) := by rw [Hres.out, ← Ht2.out, t3]; rfl
        rw [hn]; exact ⟨_, _, _, rfl, hb9, hF9⟩
end Go.Proofs.YtmickenajhppoaaGreatDoor
