import Derived.Test.YtenkceeicmfjhaaGreatDoorZ02
import Derived.StillTailTactics
/- Walks: the laws' own helpers at Head: sz, to, eq. Printed by wip/harness.py. -/
namespace Go.Proofs.YtenkceeicmfjhaaGreatDoor
open Go.RowKit
def szHead (x : PHead) : Nat := x.name.length
def szHeads (xs : List PHead) : Nat := xs.length + (xs.map szHead).sum
def okHead (x : PHead) : Prop := x.name.length ≤ 9223372036854775807 ∧ (-9223372036854775808 ≤ x.at_ ∧ x.at_ ≤ 9223372036854775807)
set_option maxRecDepth 100000 in
set_option maxHeartbeats 400000 in
theorem eqHead_any (x y : PHead)   (w : World) (_lo _hi _lo' _hi' : Nat)    :
    Calls Tryz.prog 49 #[.agg #[.string ⟨x.name.toArray⟩, .int .i64 x.at_], .agg #[.string ⟨y.name.toArray⟩, .int .i64 y.at_]] w fun e w' => e = .returned (.bool (decide (x = y))) ∧ Below w.heap.size w w' := by
  obtain ⟨x0, x1⟩ := x
  obtain ⟨y0, y1⟩ := y
  dsimp only at *
  by_cases e0 : x0 = y0
  · subst e0
    by_cases e1 : x1 = y1
    · subst e1
      go_enter Tryz.func49, Tryz.ntmps49
      go_wp2
      go_ret
      exact ⟨ret_bool (by simp), by (repeat' (first | with_reducible exact Below.refl _ _ | with_reducible assumption | (with_reducible refine Below.setCell ?_ ?_ _) | (with_reducible refine Below.alloc ?_ ?_ _) | (with_reducible refine below_drewN ?_ _) | (with_reducible refine Below.drew ?_) | omega | (simp; done) | (simp; omega)))⟩
    · have q1 : (x1 != y1) = true := by simp [e1]
      go_enter Tryz.func49, Tryz.ntmps49
      go_wp2
      go_ret
      exact ⟨ret_bool (by simp [e1]), by (repeat' (first | with_reducible exact Below.refl _ _ | with_reducible assumption | (with_reducible refine Below.setCell ?_ ?_ _) | (with_reducible refine Below.alloc ?_ ?_ _) | (with_reducible refine below_drewN ?_ _) | (with_reducible refine Below.drew ?_) | omega | (simp; done) | (simp; omega)))⟩
  · have q0 : (x0 == y0) = false := by simp [e0]
    go_enter Tryz.func49, Tryz.ntmps49
    go_wp2
    go_ret
    exact ⟨ret_bool (by simp [e0]), by (repeat' (first | with_reducible exact Below.refl _ _ | with_reducible assumption | (with_reducible refine Below.setCell ?_ ?_ _) | (with_reducible refine Below.alloc ?_ ?_ _) | (with_reducible refine below_drewN ?_ _) | (with_reducible refine Below.drew ?_) | omega | (simp; done) | (simp; omega)))⟩
set_option maxRecDepth 100000 in
set_option maxHeartbeats 400000 in
theorem eqHeadS_any (A1 A2 : Option Addr) (n1 c1 n2 c2 : Nat) (xs ys : List PHead) (w : World) (lo hi lo' hi' : Nat) (h1 : Rep w lo hi (encHeads xs) (.slice A1 n1 c1)) (h2 : Rep w lo' hi' (encHeads ys) (.slice A2 n2 c2)) (hh : hi ≤ w.heap.size) (hh' : hi' ≤ w.heap.size) :
    Calls Tryz.prog 28 #[.slice A1 n1 c1, .slice A2 n2 c2] w fun e w' => e = .returned (.bool (decide (xs = ys))) ∧ Below w.heap.size w w' := by
  have hl1 := Heads.n h1
  have hl2 := Heads.n h2
  obtain ⟨hc1, hm1⟩ := Heads.cap h1
  subst hl1 hl2
  by_cases hn : xs.length = ys.length
  · have hn' : ((xs.length : Int) != (ys.length : Int)) = false := by simp [hn]
    have Hn := Lib.hid hn
    clear hn
    go_enter Tryz.func28, Tryz.ntmps28
    go_wp2
    go_loopw [5] (fun i wr => ∃ k : Nat, k ≤ xs.length ∧ i = .int .i64 k ∧ Hid (xs.take k = ys.take k) ∧ Below w.heap.size w wr) (fun i _ => xs.length - (intOf i).toNat)
    case atStart => exact ⟨0, Nat.zero_le _, rfl, Lib.hid (by simp), Below.refl _ _⟩
    case round =>
      obtain ⟨k, hk, rfl, ht, hb⟩ := hrel
      by_cases hlt : k < xs.length
      · have hs := hb.size
        obtain ⟨b1, o1, x, rfl, _, _, hx, d0, d1⟩ := Heads.at (h1.keep hb hh) hlt
        obtain ⟨b2, o2, y, rfl, _, _, hy, f0, f1⟩ := Heads.at (h2.keep hb hh') (k := k) (by have := Hn.out; omega)
        have hlt' : (k : Int) < (xs.length : Int) := by omega
        have hlt2 : (k : Int) < (ys.length : Int) := by have := Hn.out; omega
        have hkey : xs.take (k + 1) = ys.take (k + 1) ↔ x = y := by
          rw [List.take_add_one, List.take_add_one, hx, hy, ht.out]; simp
        have Hk := Lib.hid hkey
        clear hx hy hkey
        by_cases he : x = y
        · have hd : decide (x = y) = true := by simp [he]
          have He := Lib.hid he
          clear he
          go_wp2
          go_still_tail 8, (by kernel_rfl)
          change wpList _ _ _ _ _ (wr.drewN 1)
          go_wp2_with fail
          refine Calls.mono (eqHead_any x y   _ lo hi lo' hi'  ) ?_
          rintro e w2 ⟨rfl, hb2⟩
          have hb2' : Below w.heap.size w w2 := (below_drewN hb 1).trans (hb2.mono (by first | omega | (simp; done) | (simp; omega)))
          go_wp2
          go_roundw
          case rel => exact ⟨k + 1, by omega, by go_num, Lib.hid (Hk.out.2 He.out), hb2'⟩
          case measure => simp [intOf]; omega
        · have hd : decide (x = y) = false := by simp [he]
          go_wp2
          go_still_tail 8, (by kernel_rfl)
          change wpList _ _ _ _ _ (wr.drewN 1)
          go_wp2_with fail
          refine Calls.mono (eqHead_any x y   _ lo hi lo' hi'  ) ?_
          rintro e w2 ⟨rfl, hb2⟩
          have hb2' : Below w.heap.size w w2 := (below_drewN hb 1).trans (hb2.mono (by first | omega | (simp; done) | (simp; omega)))
          go_wp2
          go_ret
          have hne : xs ≠ ys := fun e => he (Hk.out.1 (by rw [e]))
          exact ⟨ret_bool (by simp [hne]), hb2'⟩
      · go_wp2
        go_ret
        have heq : xs = ys := by
          have ht := ht.out
          have hn := Hn.out
          rwa [List.take_of_length_le (by omega), List.take_of_length_le (by omega)] at ht
        exact ⟨ret_bool (by simp [heq]), hb⟩
  · have hn' : ((xs.length : Int) != (ys.length : Int)) = true := by simp; omega
    go_enter Tryz.func28, Tryz.ntmps28
    go_wp2
    go_ret
    have hne : xs ≠ ys := fun e => hn (by rw [e])
    exact ⟨ret_bool (by simp [hne]), Below.refl _ _⟩
set_option maxRecDepth 100000 in
set_option maxHeartbeats 400000 in
theorem szHead_any (x : PHead)  (w : World) (_lo _hi : Nat) (left : Int)   (hok : okHead x) (h0 : 0 ≤ left) (h1 : left ≤ 1048576) :
    Calls Tryz.prog 35 #[.agg #[.string ⟨x.name.toArray⟩, .int .i64 x.at_], .int .i64 left] w fun e w' => (∃ r : Int, e = .returned (.int .i64 r) ∧ -1 ≤ r ∧ r ≤ left ∧ (0 ≤ r → (szHead x : Int) ≤ left - r)) ∧ Below w.heap.size w w' := by
  unfold okHead at hok
  unfold szHead
  go_enter Tryz.func35, Tryz.ntmps35
  have ok0 := hok.1
  by_cases g1 : left - (x.name.length : Int) < 0
  · go_wp2
    go_ret
    exact ⟨⟨-1, rfl, by omega, by omega, fun h => absurd h (by omega)⟩, by (repeat' (first | with_reducible exact Below.refl _ _ | with_reducible assumption | (with_reducible refine Below.setCell ?_ ?_ _) | (with_reducible refine Below.alloc ?_ ?_ _) | (with_reducible refine below_drewN ?_ _) | (with_reducible refine Below.drew ?_) | omega | (simp; done) | (simp; omega)))⟩
  ·
    go_wp2
    go_ret
    exact ⟨⟨_, rfl, by omega, by omega, fun _ => by omega⟩, by (repeat' (first | with_reducible exact Below.refl _ _ | with_reducible assumption | (with_reducible refine Below.setCell ?_ ?_ _) | (with_reducible refine Below.alloc ?_ ?_ _) | (with_reducible refine below_drewN ?_ _) | (with_reducible refine Below.drew ?_) | omega | (simp; done) | (simp; omega)))⟩
set_option maxRecDepth 100000 in
set_option maxHeartbeats 400000 in
theorem szHeadS_any (A : Option Addr) (n c : Nat) (xs : List PHead) (w : World) (lo hi : Nat) (left : Int) {e : Nat} (h : Rep w lo hi (encHeadsE e xs) (.slice A n c)) (hh : hi ≤ w.heap.size) (hs : ∀ x ∈ xs, okHead x) (h0 : 0 ≤ left) (h1 : left ≤ 1048576) :
    Calls Tryz.prog 14 #[.slice A n c, .int .i64 left] w fun e w' => (∃ r : Int, e = .returned (.int .i64 r) ∧ -1 ≤ r ∧ r ≤ left ∧ (0 ≤ r → (szHeads xs : Int) ≤ left - r)) ∧ Below w.heap.size w w' := by
  have hl := Heads.n h
  obtain ⟨hc, hm⟩ := Heads.cap h
  subst hl
  by_cases hlt : left - (xs.length : Int) < 0
  · go_enter Tryz.func14, Tryz.ntmps14
    go_wp2
    go_ret
    exact ⟨⟨-1, rfl, by omega, by omega, fun h => absurd h (by omega)⟩, Below.refl _ _⟩
  · go_enter Tryz.func14, Tryz.ntmps14
    go_wp2
    go_loopw [1, 5] (fun l i wr => ∃ k : Nat, ∃ r : Int, k ≤ xs.length ∧ i = .int .i64 k ∧ l = .int .i64 r ∧ 0 ≤ r ∧ r ≤ left ∧ Hid ((xs.length + ((xs.take k).map szHead).sum : Int) ≤ left - r) ∧ Below w.heap.size w wr) (fun _ i _ => xs.length - (intOf i).toNat)
    case atStart => exact ⟨0, _, Nat.zero_le _, rfl, rfl, by omega, by omega, Lib.hid (by first | omega | (simp; done) | (simp; omega)), Below.refl _ _⟩
    case round =>
      obtain ⟨k, r, hk, rfl, rfl, hr0, hr1, ht, hb⟩ := hrel
      by_cases hkn : k < xs.length
      · obtain ⟨b1, o1, x, rfl, _, _, hx, d0, d1⟩ := Heads.at (h.keep hb hh) hkn
        have hkn' : (k : Int) < (xs.length : Int) := by omega
        have hox := hs x (List.mem_of_getElem? hx)
        have hsum : ((xs.take (k + 1)).map szHead).sum = ((xs.take k).map szHead).sum + szHead x := by
          rw [List.take_add_one, hx]; simp
        have H1 := Lib.hid hsum
        have Hok := Lib.hid hox
        clear hsum hx hs hox
        go_wp2_with fail
        refine Calls.mono (szHead_any x  _ lo hi r  Hok.out (by omega) (by omega)) ?_
        rintro e w2 ⟨⟨r2, rfl, hl2, hu2, hz2⟩, hb2⟩
        have hb2' := hb.trans (hb2.mono hb.size)
        by_cases hneg : r2 < 0
        · go_wp2
          go_ret
          exact ⟨⟨-1, rfl, by omega, by omega, fun h => absurd h (by omega)⟩, hb2'⟩
        · go_wp2
          go_roundw
          case rel => exact ⟨k + 1, r2, by omega, by go_num, rfl, by omega, by omega, Lib.hid (by have := H1.out; have := ht.out; have := hz2 (by omega); omega), hb2'⟩
          case measure => simp [intOf]; omega
      · go_wp2
        go_ret
        refine ⟨⟨r, rfl, by omega, by omega, fun _ => ?_⟩, hb⟩
        have ht := ht.out
        rw [List.take_of_length_le (by omega)] at ht
        unfold szHeads
        omega
theorem zeroHead : True := trivial
set_option maxRecDepth 100000 in
set_option maxHeartbeats 800000 in
theorem toHead_any (x : PHead)  (w : World) (_lo _hi : Nat)    :
    Calls Tryz.prog 41 #[.agg #[.string ⟨x.name.toArray⟩, .int .i64 x.at_]] w fun e w' =>  e = .returned (.agg #[.string ⟨x.name.toArray⟩, .int .i64 x.at_]) ∧ Below w.heap.size w w' ∧ FreshL w' w.heap.size w'.heap.size (cHeads x) [.string ⟨x.name.toArray⟩, .int .i64 x.at_] := by
  obtain ⟨x0, x1⟩ := x
  dsimp only at *
  go_enter Tryz.func41, Tryz.ntmps41
  go_wp2
  refine bodyPost_ret (v := .agg #[.string ⟨x0.toArray⟩, .int .i64 x1]) (by simp [results, Tryz.results41, go_sem]) rfl ?_
  exact ⟨rfl, by (repeat' (first | with_reducible exact Below.refl _ _ | with_reducible assumption | (with_reducible refine Below.setCell ?_ ?_ _) | (with_reducible refine Below.alloc ?_ ?_ _) | (with_reducible refine below_drewN ?_ _) | (with_reducible refine Below.drew ?_) | omega | (simp; done) | (simp; omega))), FreshL.plain ⟨rfl, rfl⟩ (FreshL.plain ⟨rfl, rfl⟩ (FreshL.nil _ _ _))⟩
theorem Tryz.infoHead : (Tryz.prog.info? 77).map (fun i => (i.zero, i.size, i.bytes)) = some (some (.agg #[.string ⟨#[]⟩, .int .i64 0]), 2, 24) := by kernel_rfl
set_option maxRecDepth 100000 in
set_option maxHeartbeats 800000 in
theorem toHeadS_any (A : Option Addr) (n c : Nat) (xs : List PHead) (w : World) (lo hi : Nat) {e : Nat} (h : Rep w lo hi (encHeadsE e xs) (.slice A n c)) (hh : hi ≤ w.heap.size) (hsz : szHeads xs ≤ 1048576) :
    Calls Tryz.prog 21 #[.slice A n c] w fun e w' => ∃ A' n' c', e = .returned (.slice A' n' c') ∧ Below w.heap.size w w' ∧ Fresh w' w.heap.size w'.heap.size (encHeads xs) (.slice A' n' c') := by
  have hl := Heads.n h
  obtain ⟨hc, hm⟩ := Heads.cap h
  subst hl
  have hn : xs.length ≤ 1048576 := by unfold szHeads at hsz; omega
  have hall : ∀ x ∈ xs, szHead x ≤ 1048576 := by
    intro x hx
    have : szHead x ≤ (xs.map szHead).sum := le_sum_of_mem (List.mem_map_of_mem hx)
    unfold szHeads at hsz; omega
  obtain ⟨i, hi0, hi1, hi2, hi3⟩ := info_parts Tryz.infoHead
  go_enter Tryz.func21, Tryz.ntmps21
  go_wp2_with (at_make; refine wpList_make_full _ rfl _ _ _ rfl w.heap.size 77 i _ 2 Tryz.underlying31 hi0 hi1 hi2 _ _ _ _ xs.length rfl rfl rfl rfl ?c1 ?c2 ?c3 ?_)
  case c1 => rw [hi3]; omega
  case c2 => unfold maxLen; omega
  case c3 => exact Nat.le_refl _
  intro w1 hown hg
  have hb1 : Below w.heap.size w w1 := (Below.refl _ _).grown hg (Nat.le_refl _) (by simp)
  have hsz1 : w.heap.size < w1.heap.size := (hown.lt _ rfl).2
  go_wp2
  go_loopw [4] (fun i wr => ∃ (k : Nat) (us : List Value), k ≤ xs.length ∧ i = .int .i64 k ∧ wr.ownsRow w.heap.size 77 2 (.slice (some ⟨w.heap.size, 0, none⟩) xs.length xs.length) xs.length us ∧
      FreshL wr (w.heap.size + 1) wr.heap.size ((xs.take k).flatMap cHeads) (us.take (k * 2)) ∧ Below w.heap.size w wr ∧ w.heap.size < wr.heap.size) (fun i _ => xs.length - (intOf i).toNat)
  case atStart => exact ⟨0, _, Nat.zero_le _, rfl, hown, by simp; exact FreshL.nil _ _ _, hb1, hsz1⟩
  case round =>
    clear hown hg hb1 hsz1
    obtain ⟨k, us, hk, rfl, hown, hfl, hb, hsz1⟩ := hrel
    by_cases hkn : k < xs.length
    · obtain ⟨b1, o1, x, rfl, _, _, hx, d0, d1⟩ := Heads.at (h.keep hb hh) hkn
      have hkn' : (k : Int) < (xs.length : Int) := by omega
      have hsm := hall x (List.mem_of_getElem? hx)
      have Hsm := Lib.hid hsm
      have Hx := Lib.hid hx
      clear hsm hx hall hsz
      go_wp2_with fail
      refine Calls.mono (toHead_any x  wr lo hi  ) ?_
      rintro e w2 ⟨rfl, hb2, hf2⟩
      have hown2 := ownsRow_same (w' := w2) hown (fun q hq => hb2.block q (by simp [Value.ownBlock] at hq; omega))
      have hfl2 := hfl.same (w' := w2) (Same.of_below hb2 (Nat.le_refl _))
      have hb3 := hb.trans (hb2.mono hb.size)
      have hsz3 : w.heap.size < w2.heap.size := Nat.lt_of_lt_of_le hsz1 hb2.size
      have hul := hown2.1
      obtain ⟨u0, hu0⟩ : ∃ u, us[k * 2]? = some u := ⟨us[k * 2]'(by omega), List.getElem?_eq_getElem (by omega)⟩
      have y0 := hown2.cellAt (k * 2) (by omega)
      rw [hu0] at y0
      obtain ⟨u1, hu1⟩ : ∃ u, us[k * 2 + 1]? = some u := ⟨us[k * 2 + 1]'(by omega), List.getElem?_eq_getElem (by omega)⟩
      have y1 := hown2.cellAt (k * 2 + 1) (by omega)
      rw [hu1] at y1
      have hfr := fun j => hown2.frozenAt j
      have s0 := (hown2.stored (k * 2) (.string ⟨x.name.toArray⟩)).1
      have s1 := (s0.stored (k * 2 + 1) (.int .i64 x.at_)).1
      have htake : ((us.set (k * 2) (.string ⟨x.name.toArray⟩)).set (k * 2 + 1) (.int .i64 x.at_)).take ((k + 1) * 2) = us.take (k * 2) ++ [.string ⟨x.name.toArray⟩, .int .i64 x.at_] := by
        rw [show (k + 1) * 2 = k * 2 + 1 + 1 by omega]
        rw [take_set1 (by first | omega | (simp; done) | (simp; omega)), take_set1 (by first | omega | (simp; done) | (simp; omega))]; simp
      have hflat : (xs.take (k + 1)).flatMap cHeads = (xs.take k).flatMap cHeads ++ cHeads x := by rw [List.take_add_one, Hx.out]; simp
      have hnew := hfl2.append hf2 (by omega) hb2.size
      rw [← htake, ← hflat] at hnew
      have Hf := Lib.hid hnew
      clear hu0 hu1 s0 htake hflat hul hfl hfl2 hf2 hnew hb2 hown hown2
      go_wp2
      go_roundw
      case rel => exact ⟨k + 1, _, by omega, by go_num, s1, FreshL.mono (Hf.out.same (by (repeat' (first | with_reducible exact Same.refl _ _ _ | (with_reducible refine Same.setCell ?_ ?_ _) | omega | (simp; done) | (simp; omega))))) (Nat.le_refl _) (by first | omega | (simp; done) | (simp; omega)), by (repeat' (first | with_reducible exact Below.refl _ _ | with_reducible assumption | (with_reducible refine Below.setCell ?_ ?_ _) | (with_reducible refine Below.alloc ?_ ?_ _) | (with_reducible refine below_drewN ?_ _) | (with_reducible refine Below.drew ?_) | omega | (simp; done) | (simp; omega))), by simpa using hsz3⟩
      case measure => simp [intOf]; omega
    · go_wp2
      go_ret
      have hul := hown.1
      rw [List.take_of_length_le (by omega), List.take_of_length_le (by omega)] at hfl
      exact ⟨_, _, _, rfl, hb, Fresh.row_above hown hfl (fun g hg => by simp [Value.ownBlock] at hg; omega) (by omega) (Nat.le_refl _)⟩
end Go.Proofs.YtenkceeicmfjhaaGreatDoor
