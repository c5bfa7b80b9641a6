/- Walks: PatchFree, the program's and the reference's. -/
import Derived.Test.YthjjocimpkjldaaPatchOk2
import Derived.Test.YthjjocimpkjldaaPatchPlain
import Derived.StillTailTactics
namespace Go.Proofs.Ythjjocimpkjldaa
open Go.RowKit

def apart (x y : PHunk) : Bool := decide (x.stop < y.at_) || decide (y.stop < x.at_)
def freeAll (a b : List PHunk) : Bool := a.all fun x => b.all fun y => apart x y
def patchFree (a b : List PHunk) : Bool := patchOk a && (patchOk b && freeAll a b)
set_option maxHeartbeats 400000 in
theorem spec_l2Apart_any (x y : PHunk) (A1 A2 A3 A4 : Option Addr) (n1 c1 n2 c2 n3 c3 n4 c4 : Nat) (w : World) (lo hi lo' hi' : Nat) (h1 : Rep w lo hi (encText x.less) (.slice A1 n1 c1)) (h2 : Rep w lo' hi' (encText y.less) (.slice A3 n3 c3))
    (ha : 0 ≤ x.at_) (hb : x.at_ ≤ 10) (hl : x.less.length ≤ 10) (ha' : 0 ≤ y.at_) (hb' : y.at_ ≤ 10) (hl' : y.less.length ≤ 10) :
    Calls Try.prog 55 #[.agg #[.int .i64 x.at_, .slice A1 n1 c1, .slice A2 n2 c2], .agg #[.int .i64 y.at_, .slice A3 n3 c3, .slice A4 n4 c4]] w fun e w' => e = .returned (.bool (apart x y)) ∧ Below w.heap.size w w' := by
  have hn := Text.n h1
  have hn2 := Text.n h2
  subst hn hn2
  by_cases t1 : x.at_ + (x.less.length : Int) < y.at_
  · go_enter Try.func55, Try.ntmps55
    go_wp2
    go_ret
    exact ⟨ret_bool (by simp [apart, PHunk.stop, t1]), by (repeat' (first | with_reducible exact Below.refl _ _ | with_reducible assumption | (with_reducible refine Below.setCell ?_ ?_ _) | (with_reducible refine Below.alloc ?_ ?_ _) | (with_reducible refine below_drewN ?_ _) | (with_reducible refine Below.drew ?_) | omega | (simp; done) | (simp; omega)))⟩
  · by_cases t2 : y.at_ + (y.less.length : Int) < x.at_
    · go_enter Try.func55, Try.ntmps55
      go_wp2
      go_ret
      exact ⟨ret_bool (by simp [apart, PHunk.stop, t2]), by (repeat' (first | with_reducible exact Below.refl _ _ | with_reducible assumption | (with_reducible refine Below.setCell ?_ ?_ _) | (with_reducible refine Below.alloc ?_ ?_ _) | (with_reducible refine below_drewN ?_ _) | (with_reducible refine Below.drew ?_) | omega | (simp; done) | (simp; omega)))⟩
    · go_enter Try.func55, Try.ntmps55
      go_wp2
      go_ret
      exact ⟨ret_bool (by rw [apart, decide_eq_false (show ¬ x.stop < y.at_ by simp only [PHunk.stop]; omega), decide_eq_false (show ¬ y.stop < x.at_ by simp only [PHunk.stop]; omega)]; rfl), by (repeat' (first | with_reducible exact Below.refl _ _ | with_reducible assumption | (with_reducible refine Below.setCell ?_ ?_ _) | (with_reducible refine Below.alloc ?_ ?_ _) | (with_reducible refine below_drewN ?_ _) | (with_reducible refine Below.drew ?_) | omega | (simp; done) | (simp; omega)))⟩

set_option maxHeartbeats 800000 in
theorem spec_l2Free_any (A1 A2 : Option Addr) (n1 c1 n2 c2 : Nat) (xs ys : List PHunk) (w : World) (lo hi lo' hi' : Nat) (h1 : Rep w lo hi (encHunks xs) (.slice A1 n1 c1)) (h2 : Rep w lo' hi' (encHunks ys) (.slice A2 n2 c2))
    (hh1 : hi ≤ w.heap.size) (hh2 : hi' ≤ w.heap.size) (hx : ∀ x ∈ xs, hunkOk x = true) (hy : ∀ x ∈ ys, hunkOk x = true) :
    Calls Try.prog 33 #[.slice A1 n1 c1, .slice A2 n2 c2] w fun e w' => e = .returned (.bool (freeAll xs ys)) ∧ Below w.heap.size w w' := by
  have hl1 := Hunks.n h1
  have hl2 := Hunks.n h2
  obtain ⟨hc1, hm1⟩ := Hunks.cap h1
  obtain ⟨hc2, hm2⟩ := Hunks.cap h2
  subst hl1 hl2
  go_enter Try.func33, Try.ntmps33
  go_wp2
  go_loopw [5] (fun i wr => ∃ k : Nat, k ≤ xs.length ∧ i = .int .i64 k ∧ Hid (freeAll (xs.take k) ys = true) ∧ Below w.heap.size w wr) (fun i _ => xs.length - (intOf i).toNat)
  case atStart => exact ⟨0, Nat.zero_le _, rfl, Lib.hid (by simp [freeAll]), Below.refl _ _⟩
  case round =>
    obtain ⟨k, hk, rfl, ht, hb⟩ := hrel
    by_cases hkn : k < xs.length
    · have hkn' : (k : Int) < (xs.length : Int) := by omega
      have hsz := hb.size
      obtain ⟨wo, rfl⟩ : ∃ wo : World, wo = wr := ⟨_, rfl⟩
      obtain ⟨b1, o1, x, rfl, _, _, hxk, B1, m1, e1, B2, m2, e2, d0, d1, r1, d2, r2⟩ := Hunks.at (h1.keep hb hh1) hkn
      obtain ⟨x1, x2, _, _, x3, _, _⟩ := hunkOk_facts (hx x (List.mem_of_getElem? hxk))
      have hstep : freeAll (xs.take (k + 1)) ys = (freeAll (xs.take k) ys && ys.all fun y => apart x y) := by
        unfold freeAll; rw [List.take_add_one, hxk]; simp
      have Hstep := Lib.hid hstep
      have Hxk := Lib.hid hxk
      clear hstep hxk
      go_wp2
      go_loopw [6] (fun i wr => ∃ l : Nat, l ≤ ys.length ∧ i = .int .i64 l ∧ Hid ((ys.take l).all (fun y => apart x y) = true) ∧ Below wo.heap.size wo wr) (fun i _ => ys.length - (intOf i).toNat)
      case atStart => exact ⟨0, Nat.zero_le _, rfl, Lib.hid (by simp), Below.refl _ _⟩
      case round =>
        obtain ⟨l, hl, rfl, ht2, hb2⟩ := hrel
        have hb3 : Below w.heap.size w wr := hb.trans (hb2.mono hsz)
        have hsz2 := hb2.size
        by_cases hln : l < ys.length
        · have hln' : (l : Int) < (ys.length : Int) := by omega
          obtain ⟨b2, o2, y, rfl, _, _, hyk, B3, m3, e3, B4, m4, e4, f0, f1, r3, f2, r4⟩ := Hunks.at (h2.keep hb3 hh2) hln
          obtain ⟨y1, y2, _, _, y3, _, _⟩ := hunkOk_facts (hy y (List.mem_of_getElem? hyk))
          have g0 := Later.cell (w := wo) d0 ⟨wr, hb2⟩
          have g1 := Later.cell (w := wo) d1 ⟨wr, hb2⟩
          have g2 := Later.cell (w := wo) d2 ⟨wr, hb2⟩
          have r5 := r1.keep hb2 (Nat.le_trans hh1 hsz)
          dsimp only at g0 g1 g2
          have Hyk := Lib.hid hyk
          clear hyk
          have hhr : hi ≤ wr.heap.size := by omega
          have hhr' : hi' ≤ wr.heap.size := by omega
          replace f0 := Later.cell f0
          replace f1 := Later.cell f1
          replace f2 := Later.cell f2
          replace g0 := Later.cell g0
          replace g1 := Later.cell g1
          replace g2 := Later.cell g2
          go_wp2
          refine wp_region_later_lit (by kernel_rfl) (by kernel_rfl) ?_; try simp only [List.append_eq, List.cons_append, List.nil_append]
          cases t : apart x y
          · repeat (go_big_quiet_step (((go_at_call 55; with_reducible exact Calls.later (spec_l2Apart_any x y _ _ _ _ _ _ _ _ _ _ _ _ _ _ _ _ _ (r5.later hhr _) (r3.later hhr' _) x1 x2 x3 y1 y2 y3)))))
            (refine wpQuiet_nil ?_; intro _ hw'; obtain ⟨⟨w9, hb9⟩, hw''⟩ := hw'; subst hw''; try dsimp only)
            go_wp2
            go_ret
            refine ⟨ret_bool ?_, hb3.trans (hb9.mono (by omega))⟩
            symm
            unfold freeAll
            exact all_false Hxk.out (all_false Hyk.out t)
          · repeat (go_big_quiet_step (((go_at_call 55; with_reducible exact Calls.later (spec_l2Apart_any x y _ _ _ _ _ _ _ _ _ _ _ _ _ _ _ _ _ (r5.later hhr _) (r3.later hhr' _) x1 x2 x3 y1 y2 y3)))))
            (refine wpQuiet_nil ?_; intro _ hw'; obtain ⟨⟨w9, hb9⟩, hw''⟩ := hw'; subst hw''; try dsimp only)
            go_wp2
            go_roundw
            case rel => exact ⟨l + 1, by omega, by go_num, Lib.hid (all_take_succ Hyk.out ht2.out t), hb2.trans (hb9.mono hsz2)⟩
            case measure => simp [intOf]; omega
        · have ht3 := ht2.out
          rw [List.take_of_length_le (by omega)] at ht3
          have Ht3 := Lib.hid ht3
          clear ht3
          go_wp2
          go_roundw
          case rel => exact ⟨k + 1, by omega, by go_num, Lib.hid (by rw [Hstep.out, ht.out, Ht3.out]; rfl), hb3⟩
          case measure => simp [intOf]; omega
    · have ht2 := ht.out
      rw [List.take_of_length_le (by omega)] at ht2
      go_wp2
      go_ret
      exact ⟨ret_bool ht2.symm, hb⟩

set_option maxHeartbeats 400000 in
theorem spec_PatchFree_any (A1 A2 : Option Addr) (n1 c1 n2 c2 : Nat) (xs ys : List PHunk) (w : World) (lo hi lo' hi' : Nat) (h1 : Rep w lo hi (encHunks xs) (.slice A1 n1 c1)) (h2 : Rep w lo' hi' (encHunks ys) (.slice A2 n2 c2))
    (hh1 : hi ≤ w.heap.size) (hh2 : hi' ≤ w.heap.size) (hs1 : ∀ x ∈ xs, okHunk x) (hs2 : ∀ x ∈ ys, okHunk x) :
    Calls Try.prog 10 #[.slice A1 n1 c1, .slice A2 n2 c2] w fun e w' => e = .returned (.bool (patchFree xs ys)) ∧ Below w.heap.size w w' := by
  go_enter Try.func10, Try.ntmps10
  go_wp2_with fail
  refine Calls.mono (spec_l2Ok_any _ _ _ _ _ _ _ h1 hs1) ?_
  rintro e w1 ⟨rfl, m, rfl⟩
  cases t1 : patchOk xs
  · go_wp2
    go_ret
    exact ⟨ret_bool (by simp [patchFree, t1]), by (repeat' (first | with_reducible exact Below.refl _ _ | with_reducible assumption | (with_reducible refine Below.setCell ?_ ?_ _) | (with_reducible refine Below.alloc ?_ ?_ _) | (with_reducible refine below_drewN ?_ _) | (with_reducible refine Below.drew ?_) | omega | (simp; done) | (simp; omega)))⟩
  · go_wp2_with fail
    refine Calls.mono (spec_l2Ok_any _ _ _ _ _ _ _ (h2.drewN m) hs2) ?_
    rintro e w1 ⟨rfl, m2, rfl⟩
    cases t2 : patchOk ys
    · go_wp2
      go_ret
      exact ⟨ret_bool (by simp [patchFree, t2]), by (repeat' (first | with_reducible exact Below.refl _ _ | with_reducible assumption | (with_reducible refine Below.setCell ?_ ?_ _) | (with_reducible refine Below.alloc ?_ ?_ _) | (with_reducible refine below_drewN ?_ _) | (with_reducible refine Below.drew ?_) | omega | (simp; done) | (simp; omega)))⟩
    · go_wp2_with fail
      refine Calls.mono (spec_l2Free_any _ _ _ _ _ _ _ _ _ _ _ _ _ (h1.drewN _) (h2.drewN _) hh1 hh2 (hunkOk_of_patchOk t1) (hunkOk_of_patchOk t2)) ?_
      rintro e w1 ⟨rfl, hb9⟩
      have hb9' : Below w.heap.size w w1 := Below.trans (by (repeat' (first | with_reducible exact Below.refl _ _ | with_reducible assumption | (with_reducible refine Below.setCell ?_ ?_ _) | (with_reducible refine Below.alloc ?_ ?_ _) | (with_reducible refine below_drewN ?_ _) | (with_reducible refine Below.drew ?_) | omega | (simp; done) | (simp; omega)))) hb9
      go_wp2
      go_ret
      exact ⟨ret_bool (by simp [patchFree, t1, t2]), hb9'⟩

theorem apart_eq (x y : PHunk) : apart x y = !(decide (y.at_ ≤ x.stop) && decide (x.at_ ≤ y.stop)) := by
  unfold apart
  by_cases h1 : x.stop < y.at_ <;> by_cases h2 : y.stop < x.at_ <;> simp [h1, h2] <;> omega

set_option maxRecDepth 100000 in
set_option maxHeartbeats 2000000 in
theorem impl_PatchFree_any (A1 A2 : Option Addr) (n1 c1 n2 c2 : Nat) (xs ys : List PHunk) (w : World) (lo hi lo' hi' : Nat) (h1 : Rep w lo hi (encHunks xs) (.slice A1 n1 c1)) (h2 : Rep w lo' hi' (encHunks ys) (.slice A2 n2 c2))
    (hh1 : hi ≤ w.heap.size) (hh2 : hi' ≤ w.heap.size) :
    Calls Try.prog 9 #[.slice A1 n1 c1, .slice A2 n2 c2] w fun e w' => e = .returned (.bool (patchFree xs ys)) ∧ Below w.heap.size w w' := by
  have hl1 := Hunks.n h1
  have hl2 := Hunks.n h2
  obtain ⟨hc1, hm1⟩ := Hunks.cap h1
  obtain ⟨hc2, hm2⟩ := Hunks.cap h2
  subst hl1 hl2
  go_enter Try.func9, Try.ntmps9
  go_wp2_with fail
  refine Calls.mono (impl_PatchOk_any _ _ _ _ _ _ _ h1 hh1) ?_
  rintro e w1 ⟨rfl, hb1⟩
  cases t1 : patchOk xs
  · go_wp2
    go_ret
    exact ⟨ret_bool (by simp [patchFree, t1]), hb1⟩
  go_wp2_with fail
  refine Calls.mono (impl_PatchOk_any _ _ _ _ _ _ _ (h2.keep hb1 hh2) (Nat.le_trans hh2 hb1.size)) ?_
  rintro e w9 ⟨rfl, hb2⟩
  have hb9 : Below w.heap.size w w9 := hb1.trans (hb2.mono hb1.size)
  cases t2 : patchOk ys
  · go_wp2
    go_ret
    exact ⟨ret_bool (by simp [patchFree, t2]), hb9⟩
  obtain ⟨wz, rfl⟩ : ∃ wz : World, wz = w9 := ⟨_, rfl⟩
  have hx := hunkOk_of_patchOk t1
  have hy := hunkOk_of_patchOk t2
  have Hz := Lib.hid hb9
  have hw9 := hb9.size
  replace h1 := h1.keep hb9 hh1
  replace h2 := h2.keep hb9 hh2
  clear hb9
  have hfree : patchFree xs ys = freeAll xs ys := by simp [patchFree, t1, t2]
  have Hfree := Lib.hid hfree
  clear hfree t1 t2
  replace hh1 := Nat.le_trans hh1 hw9
  replace hh2 := Nat.le_trans hh2 hw9
  go_wp2
  go_loopw [19] (fun i wr => ∃ k : Nat, k ≤ xs.length ∧ i = .int .i64 k ∧ Hid (freeAll (xs.take k) ys = true) ∧ Below wz.heap.size wz wr) (fun i _ => xs.length - (intOf i).toNat)
  case atStart => exact ⟨0, Nat.zero_le _, rfl, Lib.hid (by simp [freeAll]), Below.refl _ _⟩
  case round =>
    obtain ⟨k, hk, rfl, ht, hb⟩ := hrel
    by_cases hkn : k < xs.length
    · have hkn' : (k : Int) < (xs.length : Int) := by omega
      have hsz := hb.size
      obtain ⟨wo, rfl⟩ : ∃ wo : World, wo = wr := ⟨_, rfl⟩
      obtain ⟨b1, o1, x, rfl, _, _, hxk, B1, m1, e1, B2, m2, e2, d0, d1, r1, d2, r2⟩ := Hunks.at (h1.keep hb hh1) hkn
      obtain ⟨x1, x2, _, _, x3, _, _⟩ := hunkOk_facts (hx x (List.mem_of_getElem? hxk))
      have hstep : freeAll (xs.take (k + 1)) ys = (freeAll (xs.take k) ys && ys.all fun y => apart x y) := by
        unfold freeAll; rw [List.take_add_one, hxk]; simp
      have Hstep := Lib.hid hstep
      have Hxk := Lib.hid hxk
      clear hstep hxk
      go_wp2
      refine name_world ?_
      intro W hW
      have hbr : Below wo.heap.size wo W := by rw [hW]; exact (Below.refl _ _).alloc (Nat.le_refl _) _
      have hbW : Below wz.heap.size wz W := hb.trans (hbr.mono hsz)
      have hWs : wo.heap.size < W.heap.size := by rw [hW]; simp [go_sem]
      have p0 : W.cell? ⟨wo.heap.size, 0, none⟩ = some (.int .i64 x.at_) := by rw [hW]; simp [go_sem]
      have p1 : W.cell? ⟨wo.heap.size, 1, none⟩ = some (.slice B1 m1 e1) := by rw [hW]; simp [go_sem]
      have p2 : W.cell? ⟨wo.heap.size, 2, none⟩ = some (.slice B2 m2 e2) := by rw [hW]; simp [go_sem]
      have R1 := r1.keep hbr (Nat.le_trans hh1 hsz)
      clear hW d0 d1 d2 r1 r2
      go_loopw [25] (fun i wq => ∃ l : Nat, l ≤ ys.length ∧ i = .int .i64 l ∧ Hid ((ys.take l).all (fun y => apart x y) = true) ∧ Below W.heap.size W wq) (fun i _ => ys.length - (intOf i).toNat)
      case atStart => exact ⟨0, Nat.zero_le _, rfl, Lib.hid (by simp), Below.refl _ _⟩
      case round =>
        obtain ⟨l, hl, rfl, ht2, hb2⟩ := hrel
        obtain ⟨wq, rfl⟩ : ∃ wq : World, wq = wr := ⟨_, rfl⟩
        have hb3 : Below wo.heap.size wo wq := hbr.trans (hb2.mono hbr.size)
        have hb4 : Below wz.heap.size wz wq := hb.trans (hb3.mono hsz)
        have hsz2 := hb2.size
        by_cases hln : l < ys.length
        · have hln' : (l : Int) < (ys.length : Int) := by omega
          obtain ⟨b2, o2, y, rfl, _, _, hyk, B3, m3, e3, B4, m4, e4, f0, f1, r3, f2, r4⟩ := Hunks.at (h2.keep hb4 hh2) hln
          obtain ⟨y1, y2, _, _, y3, _, _⟩ := hunkOk_facts (hy y (List.mem_of_getElem? hyk))
          have g0 := (hb2.cell hWs).trans p0
          have g1 := (hb2.cell hWs).trans p1
          have g2 := (hb2.cell hWs).trans p2
          have R3 := R1.keep hb2 (by omega)
          have Hyk := Lib.hid hyk
          clear hyk
          go_wp2
          refine name_world ?_
          intro V hV
          have hbv : Below wq.heap.size wq V := by rw [hV]; exact (Below.refl _ _).alloc (Nat.le_refl _) _
          have hbV : Below W.heap.size W V := hb2.trans (hbv.mono hsz2)
          have hbV9 : Below wz.heap.size wz V := hb4.trans (hbv.mono hb4.size)
          have hsz3 := hbv.size
          have q0 := Later.cell (w := V) (a := ⟨wq.heap.size, 0, none⟩) (v := .int .i64 y.at_) (by rw [hV]; simp [go_sem])
          have q1 := Later.cell (w := V) (a := ⟨wq.heap.size, 1, none⟩) (v := .slice B3 m3 e3) (by rw [hV]; simp [go_sem])
          have q2 := Later.cell (w := V) (a := ⟨wq.heap.size, 2, none⟩) (v := .slice B4 m4 e4) (by rw [hV]; simp [go_sem])
          have s0 := Later.cell (w := V) ((hbv.cell (Nat.lt_of_lt_of_le hWs hsz2)).trans g0)
          have s1 := Later.cell (w := V) ((hbv.cell (Nat.lt_of_lt_of_le hWs hsz2)).trans g1)
          have s2 := Later.cell (w := V) ((hbv.cell (Nat.lt_of_lt_of_le hWs hsz2)).trans g2)
          have R4 := R3.keep hbv (by omega)
          have R5 := r3.keep hbv (by omega)
          have hhr : hi ≤ V.heap.size := by omega
          have hhr' : hi' ≤ V.heap.size := by omega
          clear hV f0 f1 f2 g0 g1 g2 r3 r4 R3
          refine wp_region_later_lit (by kernel_rfl) (by kernel_rfl) ?_; try simp only [List.append_eq, List.cons_append, List.nil_append]
          cases t6 : decide (y.at_ ≤ x.stop)
          · repeat (go_big_quiet_step (((first | (go_at_call 31; with_reducible exact Calls.later (impl_end_any x _ _ _ _ _ _ _ _ _ (R4.later hhr _) x1 x2 x3)) | (go_at_call 31; with_reducible exact Calls.later (impl_end_any y _ _ _ _ _ _ _ _ _ (R5.later hhr' _) y1 y2 y3))))))
            (refine wpQuiet_nil ?_; intro _ hw'; obtain ⟨⟨w9, hb9⟩, hw''⟩ := hw'; subst hw''; try dsimp only)
            go_wp2
            go_roundw
            case rel => exact ⟨l + 1, by omega, by go_num, Lib.hid (all_take_succ Hyk.out ht2.out (by rw [apart_eq, t6]; rfl)), hbV.trans (hb9.mono hbV.size)⟩
            case measure => simp [intOf]; omega
          · cases t7 : decide (x.at_ ≤ y.stop)
            · repeat (go_big_quiet_step (((first | (go_at_call 31; with_reducible exact Calls.later (impl_end_any x _ _ _ _ _ _ _ _ _ (R4.later hhr _) x1 x2 x3)) | (go_at_call 31; with_reducible exact Calls.later (impl_end_any y _ _ _ _ _ _ _ _ _ (R5.later hhr' _) y1 y2 y3))))))
              (refine wpQuiet_nil ?_; intro _ hw'; obtain ⟨⟨w9, hb9⟩, hw''⟩ := hw'; subst hw''; try dsimp only)
              go_wp2
              go_roundw
              case rel => exact ⟨l + 1, by omega, by go_num, Lib.hid (all_take_succ Hyk.out ht2.out (by rw [apart_eq, t6, t7]; rfl)), hbV.trans (hb9.mono hbV.size)⟩
              case measure => simp [intOf]; omega
            · repeat (go_big_quiet_step (((first | (go_at_call 31; with_reducible exact Calls.later (impl_end_any x _ _ _ _ _ _ _ _ _ (R4.later hhr _) x1 x2 x3)) | (go_at_call 31; with_reducible exact Calls.later (impl_end_any y _ _ _ _ _ _ _ _ _ (R5.later hhr' _) y1 y2 y3))))))
              (refine wpQuiet_nil ?_; intro _ hw'; obtain ⟨⟨w9, hb9⟩, hw''⟩ := hw'; subst hw''; try dsimp only)
              go_wp2
              go_ret
              refine ⟨ret_bool ?_, Hz.out.trans ((hbV9.trans (hb9.mono hbV9.size)).mono hw9)⟩
              rw [Hfree.out]
              symm
              unfold freeAll
              exact all_false Hxk.out (all_false Hyk.out (by rw [apart_eq, t6, t7]; rfl))
        · have ht3 := ht2.out
          rw [List.take_of_length_le (by omega)] at ht3
          have Ht3 := Lib.hid ht3
          clear ht3
          go_wp2
          go_roundw
          case rel => exact ⟨k + 1, by omega, by go_num, Lib.hid (by rw [Hstep.out, ht.out, Ht3.out]; rfl), hb4⟩
          case measure => simp [intOf]; omega
    · have ht2 := ht.out
      rw [List.take_of_length_le (by omega)] at ht2
      go_wp2
      go_ret
      exact ⟨ret_bool (by rw [Hfree.out]; exact ht2.symm), Hz.out.trans (hb.mono hw9)⟩
end Go.Proofs.Ythjjocimpkjldaa
