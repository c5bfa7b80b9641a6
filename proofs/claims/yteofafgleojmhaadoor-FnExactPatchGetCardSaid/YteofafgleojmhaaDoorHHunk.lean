/- Walks: the laws' own helpers at Hunk: sz, to, eq. Printed by wip/harness.py. -/
import Derived.Test.YteofafgleojmhaaDoorText
import Derived.StillTailTactics
namespace Go.Proofs.YteofafgleojmhaaDoor
open Go.RowKit
def szHunk (x : PHunk) : Nat := total x.less + total x.more
def szHunks (xs : List PHunk) : Nat := xs.length + (xs.map szHunk).sum
def okHunk (x : PHunk) : Prop := (-9223372036854775808 ≤ x.at_ ∧ x.at_ ≤ 9223372036854775807) ∧ (∀ s ∈ x.less, s.length ≤ 9223372036854775807) ∧ (∀ s ∈ x.more, s.length ≤ 9223372036854775807)
set_option maxRecDepth 100000 in
set_option maxHeartbeats 400000 in
theorem eqHunk_any (x y : PHunk) (Aa1 Aa2 : Option Addr) (na1 ca1 na2 ca2 : Nat) (Ab1 Ab2 : Option Addr) (nb1 cb1 nb2 cb2 : Nat) (w : World) (lo hi lo' hi' : Nat) (ha1 : Rep w lo hi (encText x.less) (.slice Aa1 na1 ca1)) (ha2 : Rep w lo hi (encText x.more) (.slice Aa2 na2 ca2)) (hb1 : Rep w lo' hi' (encText y.less) (.slice Ab1 nb1 cb1)) (hb2 : Rep w lo' hi' (encText y.more) (.slice Ab2 nb2 cb2)) (hh : hi ≤ w.heap.size) (hh' : hi' ≤ w.heap.size) :
    Calls Tryd.prog 17 #[.agg #[.int .i64 x.at_, .slice Aa1 na1 ca1, .slice Aa2 na2 ca2], .agg #[.int .i64 y.at_, .slice Ab1 nb1 cb1, .slice Ab2 nb2 cb2]] w fun e w' => e = .returned (.bool (decide (x = y))) ∧ Below w.heap.size w w' := by
  obtain ⟨x0, x1, x2⟩ := x
  obtain ⟨y0, y1, y2⟩ := y
  dsimp only at *
  by_cases e0 : x0 = y0
  · subst e0
    by_cases e1 : x1 = y1
    · subst e1
      by_cases e2 : x2 = y2
      · subst e2
        go_enter Tryd.func17, Tryd.ntmps17
        go_wp2_with fail
        refine Calls.mono (eqStringS_any _ _ _ _ _ _ x1 x1 _ lo hi lo' hi' ?_ ?_) ?_
        · exact ha1.keep (B := w.heap.size) (by (repeat' (first | with_reducible exact Below.refl _ _ | with_reducible assumption | (with_reducible refine Below.setCell ?_ ?_ _) | (with_reducible refine Below.alloc ?_ ?_ _) | (with_reducible refine below_drewN ?_ _) | (with_reducible refine Below.drew ?_) | omega | (simp; done) | (simp; omega)))) hh
        · exact hb1.keep (B := w.heap.size) (by (repeat' (first | with_reducible exact Below.refl _ _ | with_reducible assumption | (with_reducible refine Below.setCell ?_ ?_ _) | (with_reducible refine Below.alloc ?_ ?_ _) | (with_reducible refine below_drewN ?_ _) | (with_reducible refine Below.drew ?_) | omega | (simp; done) | (simp; omega)))) hh'
        rintro e w1 ⟨rfl, k1, rfl⟩
        go_wp2_with fail
        refine Calls.mono (eqStringS_any _ _ _ _ _ _ x2 x2 _ lo hi lo' hi' ?_ ?_) ?_
        · exact ha2.keep (B := w.heap.size) (by (repeat' (first | with_reducible exact Below.refl _ _ | with_reducible assumption | (with_reducible refine Below.setCell ?_ ?_ _) | (with_reducible refine Below.alloc ?_ ?_ _) | (with_reducible refine below_drewN ?_ _) | (with_reducible refine Below.drew ?_) | omega | (simp; done) | (simp; omega)))) hh
        · exact hb2.keep (B := w.heap.size) (by (repeat' (first | with_reducible exact Below.refl _ _ | with_reducible assumption | (with_reducible refine Below.setCell ?_ ?_ _) | (with_reducible refine Below.alloc ?_ ?_ _) | (with_reducible refine below_drewN ?_ _) | (with_reducible refine Below.drew ?_) | omega | (simp; done) | (simp; omega)))) hh'
        rintro e w2 ⟨rfl, k2, rfl⟩
        go_wp2
        go_ret
        exact ⟨ret_bool (by simp), by (repeat' (first | with_reducible exact Below.refl _ _ | with_reducible assumption | (with_reducible refine Below.setCell ?_ ?_ _) | (with_reducible refine Below.alloc ?_ ?_ _) | (with_reducible refine below_drewN ?_ _) | (with_reducible refine Below.drew ?_) | omega | (simp; done) | (simp; omega)))⟩
      · have q2 : decide (x2 = y2) = false := by simp [e2]
        go_enter Tryd.func17, Tryd.ntmps17
        go_wp2_with fail
        refine Calls.mono (eqStringS_any _ _ _ _ _ _ x1 x1 _ lo hi lo' hi' ?_ ?_) ?_
        · exact ha1.keep (B := w.heap.size) (by (repeat' (first | with_reducible exact Below.refl _ _ | with_reducible assumption | (with_reducible refine Below.setCell ?_ ?_ _) | (with_reducible refine Below.alloc ?_ ?_ _) | (with_reducible refine below_drewN ?_ _) | (with_reducible refine Below.drew ?_) | omega | (simp; done) | (simp; omega)))) hh
        · exact hb1.keep (B := w.heap.size) (by (repeat' (first | with_reducible exact Below.refl _ _ | with_reducible assumption | (with_reducible refine Below.setCell ?_ ?_ _) | (with_reducible refine Below.alloc ?_ ?_ _) | (with_reducible refine below_drewN ?_ _) | (with_reducible refine Below.drew ?_) | omega | (simp; done) | (simp; omega)))) hh'
        rintro e w1 ⟨rfl, k1, rfl⟩
        go_wp2_with fail
        refine Calls.mono (eqStringS_any _ _ _ _ _ _ x2 y2 _ lo hi lo' hi' ?_ ?_) ?_
        · exact ha2.keep (B := w.heap.size) (by (repeat' (first | with_reducible exact Below.refl _ _ | with_reducible assumption | (with_reducible refine Below.setCell ?_ ?_ _) | (with_reducible refine Below.alloc ?_ ?_ _) | (with_reducible refine below_drewN ?_ _) | (with_reducible refine Below.drew ?_) | omega | (simp; done) | (simp; omega)))) hh
        · exact hb2.keep (B := w.heap.size) (by (repeat' (first | with_reducible exact Below.refl _ _ | with_reducible assumption | (with_reducible refine Below.setCell ?_ ?_ _) | (with_reducible refine Below.alloc ?_ ?_ _) | (with_reducible refine below_drewN ?_ _) | (with_reducible refine Below.drew ?_) | omega | (simp; done) | (simp; omega)))) hh'
        rintro e w2 ⟨rfl, k2, rfl⟩
        go_wp2
        go_ret
        exact ⟨ret_bool (by simp [e2]), by (repeat' (first | with_reducible exact Below.refl _ _ | with_reducible assumption | (with_reducible refine Below.setCell ?_ ?_ _) | (with_reducible refine Below.alloc ?_ ?_ _) | (with_reducible refine below_drewN ?_ _) | (with_reducible refine Below.drew ?_) | omega | (simp; done) | (simp; omega)))⟩
    · have q1 : decide (x1 = y1) = false := by simp [e1]
      go_enter Tryd.func17, Tryd.ntmps17
      go_wp2_with fail
      refine Calls.mono (eqStringS_any _ _ _ _ _ _ x1 y1 _ lo hi lo' hi' ?_ ?_) ?_
      · exact ha1.keep (B := w.heap.size) (by (repeat' (first | with_reducible exact Below.refl _ _ | with_reducible assumption | (with_reducible refine Below.setCell ?_ ?_ _) | (with_reducible refine Below.alloc ?_ ?_ _) | (with_reducible refine below_drewN ?_ _) | (with_reducible refine Below.drew ?_) | omega | (simp; done) | (simp; omega)))) hh
      · exact hb1.keep (B := w.heap.size) (by (repeat' (first | with_reducible exact Below.refl _ _ | with_reducible assumption | (with_reducible refine Below.setCell ?_ ?_ _) | (with_reducible refine Below.alloc ?_ ?_ _) | (with_reducible refine below_drewN ?_ _) | (with_reducible refine Below.drew ?_) | omega | (simp; done) | (simp; omega)))) hh'
      rintro e w1 ⟨rfl, k1, rfl⟩
      go_wp2
      go_ret
      exact ⟨ret_bool (by simp [e1]), by (repeat' (first | with_reducible exact Below.refl _ _ | with_reducible assumption | (with_reducible refine Below.setCell ?_ ?_ _) | (with_reducible refine Below.alloc ?_ ?_ _) | (with_reducible refine below_drewN ?_ _) | (with_reducible refine Below.drew ?_) | omega | (simp; done) | (simp; omega)))⟩
  · have q0 : (x0 != y0) = true := by simp [e0]
    go_enter Tryd.func17, Tryd.ntmps17
    go_wp2
    go_ret
    exact ⟨ret_bool (by simp [e0]), by (repeat' (first | with_reducible exact Below.refl _ _ | with_reducible assumption | (with_reducible refine Below.setCell ?_ ?_ _) | (with_reducible refine Below.alloc ?_ ?_ _) | (with_reducible refine below_drewN ?_ _) | (with_reducible refine Below.drew ?_) | omega | (simp; done) | (simp; omega)))⟩
set_option maxRecDepth 100000 in
set_option maxHeartbeats 400000 in
theorem eqHunkS_any (A1 A2 : Option Addr) (n1 c1 n2 c2 : Nat) (xs ys : List PHunk) (w : World) (lo hi lo' hi' : Nat) (h1 : Rep w lo hi (encHunks xs) (.slice A1 n1 c1)) (h2 : Rep w lo' hi' (encHunks ys) (.slice A2 n2 c2)) (hh : hi ≤ w.heap.size) (hh' : hi' ≤ w.heap.size) :
    Calls Tryd.prog 6 #[.slice A1 n1 c1, .slice A2 n2 c2] w fun e w' => e = .returned (.bool (decide (xs = ys))) ∧ Below w.heap.size w w' := by
  have hl1 := Hunks.n h1
  have hl2 := Hunks.n h2
  obtain ⟨hc1, hm1⟩ := Hunks.cap h1
  subst hl1 hl2
  by_cases hn : xs.length = ys.length
  · have hn' : ((xs.length : Int) != (ys.length : Int)) = false := by simp [hn]
    have Hn := Lib.hid hn
    clear hn
    go_enter Tryd.func6, Tryd.ntmps6
    go_wp2
    go_loopw [5] (fun i wr => ∃ k : Nat, k ≤ xs.length ∧ i = .int .i64 k ∧ Hid (xs.take k = ys.take k) ∧ Below w.heap.size w wr) (fun i _ => xs.length - (intOf i).toNat)
    case atStart => exact ⟨0, Nat.zero_le _, rfl, Lib.hid (by simp), Below.refl _ _⟩
    case round =>
      obtain ⟨k, hk, rfl, ht, hb⟩ := hrel
      by_cases hlt : k < xs.length
      · have hs := hb.size
        obtain ⟨b1, o1, x, rfl, _, _, hx, Aa1, na1, ca1, Aa2, na2, ca2, d0, d1, ra1, d2, ra2⟩ := Hunks.at (h1.keep hb hh) hlt
        obtain ⟨b2, o2, y, rfl, _, _, hy, Ab1, nb1, cb1, Ab2, nb2, cb2, f0, f1, rb1, f2, rb2⟩ := Hunks.at (h2.keep hb hh') (k := k) (by have := Hn.out; omega)
        have hlt' : (k : Int) < (xs.length : Int) := by omega
        have hlt2 : (k : Int) < (ys.length : Int) := by have := Hn.out; omega
        have hkey : xs.take (k + 1) = ys.take (k + 1) ↔ x = y := by
          rw [List.take_add_one, List.take_add_one, hx, hy, ht.out]; simp
        have Hk := Lib.hid hkey
        clear hx hy hkey
        by_cases he : x = y
        · have hd : decide (x = y) = true := by simp [he]
          have He := Lib.hid he
          clear he
          go_wp2
          go_still_tail 8, (by kernel_rfl)
          change wpList _ _ _ _ _ (wr.drewN 1)
          go_wp2_with fail
          refine Calls.mono (eqHunk_any x y _ _ _ _ _ _ _ _ _ _ _ _ _ lo hi lo' hi' (ra1.drewN 1) (ra2.drewN 1) (rb1.drewN 1) (rb2.drewN 1) (by first | omega | (simp; done) | (simp; omega)) (by first | omega | (simp; done) | (simp; omega))) ?_
          rintro e w2 ⟨rfl, hb2⟩
          have hb2' : Below w.heap.size w w2 := (below_drewN hb 1).trans (hb2.mono (by first | omega | (simp; done) | (simp; omega)))
          go_wp2
          go_roundw
          case rel => exact ⟨k + 1, by omega, by go_num, Lib.hid (Hk.out.2 He.out), hb2'⟩
          case measure => simp [intOf]; omega
        · have hd : decide (x = y) = false := by simp [he]
          go_wp2
          go_still_tail 8, (by kernel_rfl)
          change wpList _ _ _ _ _ (wr.drewN 1)
          go_wp2_with fail
          refine Calls.mono (eqHunk_any x y _ _ _ _ _ _ _ _ _ _ _ _ _ lo hi lo' hi' (ra1.drewN 1) (ra2.drewN 1) (rb1.drewN 1) (rb2.drewN 1) (by first | omega | (simp; done) | (simp; omega)) (by first | omega | (simp; done) | (simp; omega))) ?_
          rintro e w2 ⟨rfl, hb2⟩
          have hb2' : Below w.heap.size w w2 := (below_drewN hb 1).trans (hb2.mono (by first | omega | (simp; done) | (simp; omega)))
          go_wp2
          go_ret
          have hne : xs ≠ ys := fun e => he (Hk.out.1 (by rw [e]))
          exact ⟨ret_bool (by simp [hne]), hb2'⟩
      · go_wp2
        go_ret
        have heq : xs = ys := by
          have ht := ht.out
          have hn := Hn.out
          rwa [List.take_of_length_le (by omega), List.take_of_length_le (by omega)] at ht
        exact ⟨ret_bool (by simp [heq]), hb⟩
  · have hn' : ((xs.length : Int) != (ys.length : Int)) = true := by simp; omega
    go_enter Tryd.func6, Tryd.ntmps6
    go_wp2
    go_ret
    have hne : xs ≠ ys := fun e => hn (by rw [e])
    exact ⟨ret_bool (by simp [hne]), Below.refl _ _⟩
end Go.Proofs.YteofafgleojmhaaDoor
