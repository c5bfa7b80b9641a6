/- Several of my texts in one: DoPlain, Do. -/
import Derived.Test.YtmickenajhppoaaGreatDoorZ01
import Derived.Test.YtmickenajhppoaaGreatDoorZ09
import Derived.Test.YtmickenajhppoaaGreatDoorZ12
import Derived.Deep.RegionHeld3
/- In plain words: a patch put into a text. -/
namespace Go.Proofs.YtmickenajhppoaaGreatDoor
open Go.RowKit

def doFrom (t : List Str) : List PHunk → Nat → List Str → Option (List Str)
  | [], f, out => if textOk (out ++ t.drop f) then some (out ++ t.drop f) else none
  | h :: d, f, out => if t.length < h.at_.toNat + h.less.length then none else
      if (t.drop h.at_.toNat).take h.less.length = h.less then doFrom t d (h.at_.toNat + h.less.length) (out ++ (t.drop f).take (h.at_.toNat - f) ++ h.more) else none
def patchDo (t : List Str) (d : List PHunk) : Option (List Str) := if textOk t && patchOk d then doFrom t d 0 [] else none
theorem hunksOk_cons {h : PHunk} {d : List PHunk} (hk : hunksOk (h :: d) = true) : hunkOk h = true ∧ hunksOk d = true ∧ ∀ g, d.head? = some g → h.stop < g.at_ := by
  cases d with
  | nil => exact ⟨by simpa [hunksOk] using hk, rfl, fun g hg => by simp at hg⟩
  | cons g t =>
    simp only [hunksOk, Bool.and_eq_true, decide_eq_true_eq] at hk
    refine ⟨hk.1, hk.2.2, fun g' hg => ?_⟩
    simp at hg
    subst hg
    exact hk.2.1
theorem doFrom_ok {t : List Str} : ∀ {d : List PHunk} {f : Nat} {out r : List Str}, doFrom t d f out = some r → textOk r = true
  | [], f, out, r, h => by
    rw [doFrom] at h
    split at h
    · rename_i hk
      cases h; exact hk
    · cases h
  | x :: d, f, out, r, h => by
    rw [doFrom] at h
    split at h
    · cases h
    split at h
    · exact doFrom_ok h
    · cases h

end Go.Proofs.YtmickenajhppoaaGreatDoor

/- Walk: a patch put into a text, the program's. -/
namespace Go.Proofs.YtmickenajhppoaaGreatDoor
open Go.RowKit

/-- 't[i:]', its address a letter. -/
theorem Tryz.cutFrom (A : Option Addr) (n c i : Nat) (hij : i ≤ n) : ∃ A', A' = (if c = i then A else A.map fun a => a.add i) ∧
    (∀ W, (Instr.sliceAt 38 (.slice A n c) (some (.int .i64 i)) none none).run Tryz.prog W = .ok (.slice A' (n - i) (c - i)) W) ∧
    (∀ W, (Instr.slice 38 (.slice A n c) (some (.int .i64 i)) none none).run Tryz.prog W = .ok (.slice A' (n - i) (c - i)) W) := by
  have ht : Tryz.prog.underlying 38 = some (.slice (Tryz.prog.elem 38)) := by kernel_rfl
  obtain ⟨ii, hi0, hi1, hi2, hi3⟩ := info_parts Tryz.infoStr
  have he : Tryz.prog.elem 38 = 9 := by kernel_rfl
  have h : ∀ W, (Instr.slice 38 (.slice A n c) (some (.int .i64 i)) none none).run Tryz.prog W = .ok (.slice (if c = i then A else A.map fun a => a.add i) (n - i) (c - i)) W := by
    intro W
    rw [run_slice_l (h0 := by omega) (h1 := by omega) (ht := ht), he, sizeOf_run hi0, hi2]
    simp [Result.andThen, sliced]
  exact ⟨_, rfl, fun W => by rw [run_sliceAt_slice (h := ht)]; exact h W, h⟩
theorem impl_endN_any (a e : Nat) (less : List Str) (A1 A2 : Option Addr) (n1 c1 n2 c2 : Nat) (w : World) (lo hi : Nat) (h1 : Rep w lo hi (encText less) (.slice A1 n1 c1)) (ha : a ≤ 10) (hl : less.length ≤ 10) (he : e = a + less.length) :
    Calls Tryz.prog 60 #[.agg #[.int .i64 (a : Int), .slice A1 n1 c1, .slice A2 n2 c2]] w fun q w' => q = .returned (.int .i64 (e : Int)) ∧ Below w.heap.size w w' := by
  have := impl_end_any ⟨(a : Int), less, []⟩ A1 A2 n1 c1 n2 c2 w lo hi h1 (by simp) (by simp; omega) hl
  refine this.mono fun q w' hq => ⟨?_, hq.2⟩
  rw [hq.1, he]
  simp [PHunk.stop]
theorem Text.cut' {w : World} {lo hi e n c : Nat} {A : Option Addr} {xs : List Str} (h : Rep w lo hi (encTextE e xs) (.slice A n c)) (i m : Nat) (hj : i + m ≤ n) {j : Nat} (e1 : j = i + m) :
    Rep w lo hi (encTextE e ((xs.drop i).take m)) (.slice (if c = i then A else A.map fun a => a.add i) (j - i) (c - i)) := by
  subst e1
  have := Text.cut h i (i + m) (by omega) hj
  rwa [show i + m - i = m by omega] at this ⊢

set_option maxRecDepth 100000 in
set_option maxHeartbeats 3200000 in
theorem impl_PatchDo_any (A1 A2 : Option Addr) (n1 c1 n2 c2 : Nat) (xs : List Str) (ys : List PHunk) (w : World) (lo hi lo' hi' : Nat) (h1 : Rep w lo hi (encText xs) (.slice A1 n1 c1)) (h2 : Rep w lo' hi' (encHunks ys) (.slice A2 n2 c2))
    (hh1 : hi ≤ w.heap.size) (hh2 : hi' ≤ w.heap.size) :
    Calls Tryz.prog 30 #[.slice A1 n1 c1, .slice A2 n2 c2] w fun e w' => ∃ A n c, e = .returned (.tuple #[.slice A n c, .bool (patchDo xs ys).isSome]) ∧ Below w.heap.size w w' ∧ Fresh w' w.heap.size w'.heap.size (encText ((patchDo xs ys).getD [])) (.slice A n c) := by
  have hl1 := Text.n h1
  have hl2 := Hunks.n h2
  obtain ⟨hc1, hm1⟩ := Text.cap h1
  obtain ⟨hc2, hm2⟩ := Hunks.cap h2
  subst hl1 hl2
  obtain ⟨is, si0, si1, si2, si3⟩ := info_parts Tryz.infoStr
  go_enter Tryz.func30, Tryz.ntmps30
  go_wp2_with fail
  refine Calls.mono (impl_TextOk_any _ _ _ xs w lo hi h1) ?_
  rintro e w' ⟨rfl, rfl⟩
  cases t1 : textOk xs
  · go_wp2
    go_ret2
    have hn : patchDo xs ys = none := by rw [patchDo, t1]; rfl
    rw [hn]
    exact ⟨_, _, _, rfl, Below.refl _ _, Fresh.nil _ _ _ _ _⟩
  go_wp2_with fail
  refine Calls.mono (impl_PatchOk_any _ _ _ ys w lo' hi' h2 hh2) ?_
  rintro e wz ⟨rfl, hbz⟩
  cases t2 : patchOk ys
  · go_wp2
    go_ret2
    have hn : patchDo xs ys = none := by rw [patchDo, t2, Bool.and_false]; rfl
    rw [hn]
    exact ⟨_, _, _, rfl, hbz, Fresh.nil _ _ _ _ _⟩
  have hy := hunkOk_of_patchOk t2
  have hyl := patchOk_len t2
  have hxl := textOk_len t1
  have hhk : hunksOk ys = true := by
    have h := t2
    simp only [patchOk, Bool.and_eq_true] at h
    exact h.2
  have hres : patchDo xs ys = doFrom xs ys 0 [] := by rw [patchDo, t1, t2]; rfl
  have Hres := Lib.hid hres
  have hwz := hbz.size
  replace h1 := h1.keep hbz hh1
  replace h2 := h2.keep hbz hh2
  replace hh1 := Nat.le_trans hh1 hwz
  replace hh2 := Nat.le_trans hh2 hwz
  have Hz := Lib.hid hbz
  have Hhk := Lib.hid hhk
  clear hres hbz hhk
  go_wp2
  go_loopw [6, 7, 20] (fun t fr i wr => ∃ (k f : Nat) (out : List Str) (A' : Option Addr) (c' : Nat), k ≤ ys.length ∧ t = .slice A' out.length c' ∧ fr = .int .i64 f ∧ i = .int .i64 k ∧ f ≤ xs.length ∧ out.length ≤ 20 * k ∧
      wr.ownsRow wz.heap.size 9 1 (.slice A' out.length c') out.length (out.map fun s => .string ⟨s.toArray⟩) ∧ Hid (hunksOk (ys.drop k) = true) ∧ Hid (∀ g, (ys.drop k).head? = some g → (f : Int) ≤ g.at_) ∧
      Hid (doFrom xs (ys.drop k) f out = doFrom xs ys 0 []) ∧ Below wz.heap.size wz wr) (fun _ _ i _ => ys.length - (intOf i).toNat)
  case atStart => exact ⟨0, 0, [], _, _, Nat.zero_le _, rfl, rfl, rfl, Nat.zero_le _, by simp, World.ownsRow_nil _ _ _ _, Lib.hid (by simpa using Hhk.out), Lib.hid (fun g hg => by
      have := (hunkOk_facts (hy g (List.mem_of_mem_head? (by simpa using hg)))).1
      omega), Lib.hid rfl, Below.refl _ _⟩
  case round =>
    obtain ⟨k, f, out, A', c', hk, rfl, rfl, rfl, hf, hol, hown, hhk, hhd, ht, hb⟩ := hrel
    by_cases hkn : k < ys.length
    · have hkn' : (k : Int) < (ys.length : Int) := by omega
      have hsz := hb.size
      obtain ⟨wo, rfl⟩ : ∃ wo : World, wo = wr := ⟨_, rfl⟩
      obtain ⟨b1, o1, x, rfl, hblo, hbhi, hyk, B1, m1, e1, B2, m2, e2, d0, d1, r1, d2, r2⟩ := Hunks.at (h2.keep hb hh2) hkn
      obtain ⟨x1, x2, _, _, x3, x4, _⟩ := hunkOk_facts (hy x (List.mem_of_getElem? hyk))
      have hdc := drop_cons hyk
      have hhk2 := hhk.out
      have hhd2 := hhd.out
      have ht2 := ht.out
      rw [hdc] at hhk2 hhd2 ht2
      obtain ⟨_, hhk3, hhd3⟩ := hunksOk_cons hhk2
      have hfa := hhd2 x rfl
      obtain ⟨at0, less, more⟩ := x
      dsimp only at *
      obtain ⟨a, rfl⟩ := Int.eq_ofNat_of_zero_le x1
      rw [doFrom] at ht2
      simp only [Int.toNat_natCast] at ht2
      obtain ⟨e, he⟩ : ∃ e, e = a + less.length := ⟨_, rfl⟩
      have hn1 := Text.n r1
      have hn2 := Text.n r2
      subst hn1 hn2
      have hfa' : f ≤ a := by omega
      have hae : a ≤ e := by omega
      have he20 : e ≤ 20 := by omega
      have ha10 : a ≤ 10 := by omega
      have Hhk3 := Lib.hid hhk3
      have hhd4 : ∀ g, (ys.drop (k + 1)).head? = some g → (e : Int) ≤ g.at_ := fun g hg => by
        have := hhd3 g hg
        unfold PHunk.stop at this
        dsimp only at this
        omega
      have Hhd4 := Lib.hid hhd4
      have Ht2 := Lib.hid ht2
      have He := Lib.hid he
      clear he hdc hhk2 hhd2 ht2 hhk3 hhd3 hfa hyk hhk hhd ht hhd4 x1 x2
      go_wp2
      refine name_world ?_
      intro V hV
      have hbv : Below wo.heap.size wo V := by rw [hV]; exact (Below.refl _ _).alloc (Nat.le_refl _) _
      have hbV : Below wz.heap.size wz V := hb.trans (hbv.mono hsz)
      have hVs : wo.heap.size < V.heap.size := by rw [hV]; simp [go_sem]
      have p0 : V.cell? ⟨wo.heap.size, 0, none⟩ = some (.int .i64 (a : Int)) := by rw [hV]; simp [go_sem]
      have p1 : V.cell? ⟨wo.heap.size, 1, none⟩ = some (.slice B1 less.length e1) := by rw [hV]; simp [go_sem]
      have p2 : V.cell? ⟨wo.heap.size, 2, none⟩ = some (.slice B2 more.length e2) := by rw [hV]; simp [go_sem]
      have q0 := Later.cell p0
      have q1 := Later.cell p1
      have q2 := Later.cell p2
      have R1 := r1.keep hbv (Nat.le_trans hh2 hsz)
      have R2 := r2.keep hbv (Nat.le_trans hh2 hsz)
      have T1 := h1.keep hbV hh1
      have hhV : hi' ≤ V.heap.size := by omega
      have hhX : hi ≤ V.heap.size := by omega
      clear hV d0 d1 d2 r1 r2
      by_cases hlen : xs.length < e
      · have hlen' : decide ((xs.length : Int) < (e : Int)) = true := by simp; omega
        have hlen2 : decide (xs.length < e) = true := by simp; omega
        refine wp_region_later_lit (by kernel_rfl) (by kernel_rfl) ?_; try simp only [List.append_eq, List.cons_append, List.nil_append]
        repeat (go_big_quiet_step (((go_at_call 60; with_reducible exact Calls.later (impl_endN_any a e less _ _ _ _ _ _ _ _ _ (R1.later hhV _) ha10 x3 He.out)))))
        (refine wpQuiet_nil ?_; intro _ hw'; obtain ⟨⟨w9, hb9⟩, hw''⟩ := hw'; subst hw''; try dsimp only)
        go_wp2
        go_ret2
        have hn : patchDo xs ys = none := by
          have h := Ht2.out
          rw [if_pos (by have := He.out; omega)] at h
          rw [Hres.out, ← h]
        rw [hn]; exact ⟨_, _, _, rfl, Hz.out.trans ((hbV.trans (hb9.mono hbV.size)).mono hwz), Fresh.nil _ _ _ _ _⟩
      · have hlen' : decide ((xs.length : Int) < (e : Int)) = false := by simp; omega
        have hlen2 : decide (xs.length < e) = false := by simp; omega
        obtain ⟨C1, eC1, hq1, hq1'⟩ := Tryz.cutText A1 xs.length c1 a e hae (by omega)
        have U1 := Text.cut' T1 a less.length (by have := He.out; omega) He.out
        rw [← eC1] at U1
        clear eC1
        cases heq : decide ((xs.drop a).take less.length = less)
        · refine wp_region_later_lit (by kernel_rfl) (by kernel_rfl) ?_; try simp only [List.append_eq, List.cons_append, List.nil_append]
          repeat (go_big_quiet_step (((first | (go_at_call 60; with_reducible exact Calls.later (impl_endN_any a e less _ _ _ _ _ _ _ _ _ (R1.later hhV _) ha10 x3 He.out)) | (go_at_call 28; with_reducible exact Calls.later_drew (slices_Equal_any _ _ _ _ _ _ _ _ _ _ _ _ _ (U1.later hhX _) (R1.later hhV _)))))))
          (refine wpQuiet_nil ?_; intro _ hw'; obtain ⟨⟨w9, hb9⟩, hw''⟩ := hw'; subst hw''; try dsimp only)
          go_wp2
          go_ret2
          have hn : patchDo xs ys = none := by
            have h := Ht2.out
            rw [if_neg (by have := He.out; omega), if_neg (by simpa using heq)] at h
            rw [Hres.out, ← h]
          rw [hn]; exact ⟨_, _, _, rfl, Hz.out.trans ((hbV.trans (hb9.mono hbV.size)).mono hwz), Fresh.nil _ _ _ _ _⟩
        · refine wp_region_later_lit (by kernel_rfl) (by kernel_rfl) ?_; try simp only [List.append_eq, List.cons_append, List.nil_append]
          repeat (go_big_quiet_step (((first | (go_at_call 60; with_reducible exact Calls.later (impl_endN_any a e less _ _ _ _ _ _ _ _ _ (R1.later hhV _) ha10 x3 He.out)) | (go_at_call 28; with_reducible exact Calls.later_drew (slices_Equal_any _ _ _ _ _ _ _ _ _ _ _ _ _ (U1.later hhX _) (R1.later hhV _)))))))
          (refine wpQuiet_nil ?_; intro _ hw'; obtain ⟨⟨w9, hb9⟩, hw''⟩ := hw'; subst hw''; try dsimp only)
          rename World => w9
          have hstp : doFrom xs (ys.drop (k + 1)) e (out ++ (xs.drop f).take (a - f) ++ more) = doFrom xs ys 0 [] := by
            have h := Ht2.out
            rw [if_neg (by have := He.out; omega), if_pos (by simpa using heq), ← He.out] at h
            exact h
          have Hstp := Lib.hid hstp
          have hs9 := hb9.size
          have hV9 : wo.heap.size < w9.heap.size := by omega
          have g0 := (hb9.cell hVs).trans p0
          have g1 := (hb9.cell hVs).trans p1
          have g2 := (hb9.cell hVs).trans p2
          have hbw : Below wz.heap.size wz w9 := hbV.trans (hb9.mono hbV.size)
          have hwo9 : Below wo.heap.size wo w9 := hbv.trans (hb9.mono hbv.size)
          have S1 := R1.keep hb9 hhV
          have S2 := R2.keep hb9 hhV
          have S3 := T1.keep hb9 hhX
          obtain ⟨C2, eC2, hq2, hq2'⟩ := Tryz.cutText A1 xs.length c1 f a hfa' (by omega)
          have U2 := Text.cut S3 f a hfa' (by omega)
          rw [← eC2] at U2
          have hown9 := ownsRow_same (w' := w9) hown (fun q hq => hwo9.block q (hown.lt q (by simpa using hq)).2)
          have hrowlt : ∀ g, (Value.slice A' out.length c').ownBlock = some g → g ≠ wo.heap.size := fun g hg e => by have := (hown.lt g hg).2; omega
          have hswz : wz.heap.size ≤ w9.heap.size := hbw.size
          have hcl : ((xs.drop f).take (a - f)).length = a - f := by simp; omega
          have Hcl := Lib.hid hcl
          clear hstp eC2 q0 q1 q2 p0 p1 p2 hown U1 R1 R2 T1 hcl hq1 hq1'
          go_wp2
          have hrow1 : some wo.heap.size ≠ (Value.slice A' out.length c').ownBlock := fun e => hrowlt _ e.symm rfl
          have hol2 : out.length ≤ 160 := by omega
          go_region_held3 (fun w' => w'.cell? ⟨wo.heap.size, 0, none⟩ = some (.int .i64 (a : Int)) ∧ w'.cell? ⟨wo.heap.size, 1, none⟩ = some (.slice B1 less.length e1) ∧ w'.cell? ⟨wo.heap.size, 2, none⟩ = some (.slice B2 more.length e2)) ((first | trivial | exact ⟨cx0, cx1, cx2⟩ | exact ⟨cw0, cw1, cw2⟩ | go_keep)) (first
            | (
              refine step_append_src _ (by rfl) (.tmp 41) (.tmp 46) _ (by rfl) wz.heap.size 9 is _ 1 16 Tryz.underlying38 si0 si1 si2 si3 (by rfl) (by omega) _ out.length _ (by rfl) (show w9.drew.ownsRow _ _ _ _ _ _ from hown9) C2 (a - f) (c1 - f) _ (by rfl) (Text.src (show Rep w9.drew _ _ _ _ from U2.drewN 1)) (texts_one _) (by unfold maxLen; omega) (by omega) hswz ?_
              intro A5 c5 w5 hown5 hg5 hat5
              change World.grownBy _ w5 (Value.slice A' out.length c').ownBlock at hg5
              change _ = (Value.slice A' out.length c').ownBlock ∨ _ = some w9.heap.size at hat5
              have hb5 : Below wz.heap.size w9 w5 := Below.grown ((Below.refl _ _).drew) hg5 hswz (fun g hg => (hown9.lt g hg).1)
              have hs5 : w9.heap.size ≤ w5.heap.size := hb5.size
              have hrow2 : some wo.heap.size ≠ (Value.slice A5 (out.length + (a - f)) c5).ownBlock := fun e => by
                rcases hat5 with h | h
                · exact hrow1 (e.trans h)
                · rw [h] at e; simp at e; omega
              have cw0 : w5.cell? ⟨wo.heap.size, 0, none⟩ = some (.int .i64 (a : Int)) := (World.cell?_of_block (hg5.block _ hV9 hrow1)).trans g0
              have cw1 : w5.cell? ⟨wo.heap.size, 1, none⟩ = some (.slice B1 less.length e1) := (World.cell?_of_block (hg5.block _ hV9 hrow1)).trans g1
              have cw2 : w5.cell? ⟨wo.heap.size, 2, none⟩ = some (.slice B2 more.length e2) := (World.cell?_of_block (hg5.block _ hV9 hrow1)).trans g2)
            | (
              refine step_append_src _ (by rfl) (.tmp 47) (.tmp 49) _ (by rfl) wz.heap.size 9 is _ 1 16 Tryz.underlying38 si0 si1 si2 si3 (by rfl) (by omega) _ (out.length + (a - f)) _ (by rfl) hown5 B2 more.length e2 _ (by rfl) (Text.src (S2.keep hb5 hh2)) (texts_one _) (by unfold maxLen; omega) (by omega) (by omega) ?_
              intro A6 c6 w6 hown6 hg6 hat6
              change World.grownBy _ w6 (Value.slice A5 (out.length + (a - f)) c5).ownBlock at hg6
              have hb6 : Below wz.heap.size w9 w6 := hb5.grown hg6 (by omega) (fun g hg => (hown5.lt g hg).1)
              have cx0 : w6.cell? ⟨wo.heap.size, 0, none⟩ = some (.int .i64 (a : Int)) := (World.cell?_of_block (hg6.block _ (Nat.lt_of_lt_of_le hV9 hg5.size) hrow2)).trans cw0
              have cx1 : w6.cell? ⟨wo.heap.size, 1, none⟩ = some (.slice B1 less.length e1) := (World.cell?_of_block (hg6.block _ (Nat.lt_of_lt_of_le hV9 hg5.size) hrow2)).trans cw1
              have cx2 : w6.cell? ⟨wo.heap.size, 2, none⟩ = some (.slice B2 more.length e2) := (World.cell?_of_block (hg6.block _ (Nat.lt_of_lt_of_le hV9 hg5.size) hrow2)).trans cw2))
          go_wp2_with fail
          refine Calls.mono (impl_endN_any a e less _ _ _ _ _ _ w6 lo' hi' (S1.keep hb6 hh2) ha10 x3 He.out) ?_
          rintro q w7 ⟨rfl, hb7⟩
          have hlen' : (out ++ (xs.drop f).take (a - f) ++ more).length = out.length + (a - f) + more.length := by simp only [List.length_append, Hcl.out]
          have hown7 := ownsRow_same (w' := w7) hown6 (fun q hq => hb7.block q (hown6.lt q (by simpa using hq)).2)
          have hb7' := (hbw.trans (hb6.mono (Nat.le_refl _))).trans (hb7.mono (Nat.le_trans (Nat.le_trans hswz hs5) hg6.size))
          rw [← List.map_append, ← List.map_append, ← hlen'] at hown7
          have Hown := Lib.hid hown7
          have Hlen := Lib.hid hlen'
          clear hown7 hown6 hown5 hown9 hg5 hg6 hat5 hat6 hb5 hb6 hlen' cw0 cw1 cw2 cx0 cx1 cx2 U2 S1 S2 S3
          go_wp2
          go_roundw
          case rel => exact ⟨k + 1, e, out ++ (xs.drop f).take (a - f) ++ more, A6, c6, by omega, by rw [Hlen.out], rfl, by go_num, by omega, by rw [Hlen.out]; omega, Hown.out, Hhk3, Hhd4, Hstp, hb7'⟩
          case measure => simp [intOf]; omega
    · obtain rfl : k = ys.length := by omega
      have ht2 := ht.out
      rw [List.drop_of_length_le (Nat.le_refl _), doFrom] at ht2
      have hb' := hb.size
      obtain ⟨C3, eC3, hq3, hq3'⟩ := Tryz.cutFrom A1 xs.length c1 f hf
      have U3 := Text.cut' (h1.keep hb hh1) f (xs.length - f) (by omega) (show xs.length = f + (xs.length - f) by omega)
      rw [← eC3, List.take_of_length_le (by simp)] at U3
      have Ht2 := Lib.hid ht2
      clear ht2 eC3
      go_wp2_with (at_builtin; refine wpList_append_src _ rfl (.tmp 54) (.tmp 57) _ rfl wz.heap.size 9 is _ 1 16 Tryz.underlying38 si0 si1 si2 si3 rfl (by omega) _ out.length _ rfl hown _ (xs.length - f) _ _ rfl (Text.src U3) (texts_one _) ?e3 ?e4 ?e5 ?_)
      case e3 => unfold maxLen; omega
      case e4 => omega
      case e5 => omega
      intro A9 c9 w9 hown9 hg9 _
      have hb9 : Below wz.heap.size wz w9 := hb.grown hg9 hb' (fun g hg => (hown.lt g hg).1)
      have hF9 : Fresh w9 wz.heap.size w9.heap.size (encText (out ++ xs.drop f)) (.slice A9 (out.length + (xs.length - f)) c9) :=
        Fresh.of_row hown9 (by have := owns_strs w9 (out ++ xs.drop f); simpa [List.map_append, List.map_drop] using this)
      go_wp2_with fail
      refine Calls.mono (impl_TextOk_any _ _ _ (out ++ xs.drop f) w9 _ _ hF9.rep) ?_
      rintro e w' ⟨rfl, rfl⟩
      cases t3 : textOk (out ++ xs.drop f)
      · go_wp2
        go_ret2
        have hn : patchDo xs ys = none := by rw [Hres.out, ← Ht2.out, t3]; rfl
        rw [hn]; exact ⟨_, _, _, rfl, Hz.out.trans (hb9.mono hwz), Fresh.nil _ _ _ _ _⟩
      · go_wp2
        go_ret2
        have hn : patchDo xs ys = some (out ++ xs.drop f) := by rw [Hres.out, ← Ht2.out, t3]; rfl
        rw [hn]; exact ⟨_, _, _, rfl, Hz.out.trans (hb9.mono hwz), hF9.mono hwz (Nat.le_refl _)⟩
end Go.Proofs.YtmickenajhppoaaGreatDoor
