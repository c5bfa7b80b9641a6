/- Walks: the laws' own helpers at Clash: sz, to, eq. Printed by wip/harness.py. -/
import Derived.Test.YtgcioajaglljfaaGreatDoorText
import Derived.StillTailTactics
namespace Go.Proofs.YtgcioajaglljfaaGreatDoor
open Go.RowKit
def szClash (x : PClash) : Nat := x.path.length
def szClashs (xs : List PClash) : Nat := xs.length + (xs.map szClash).sum
def okClash (x : PClash) : Prop := x.path.length ≤ 9223372036854775807 ∧ (-9223372036854775808 ≤ x.kind ∧ x.kind ≤ 9223372036854775807)
set_option maxRecDepth 100000 in
set_option maxHeartbeats 400000 in
theorem eqClash_any (x y : PClash)   (w : World) (_lo _hi _lo' _hi' : Nat)    :
    Calls Tryz.prog 28 #[.agg #[.string ⟨x.path.toArray⟩, .int .i64 x.kind], .agg #[.string ⟨y.path.toArray⟩, .int .i64 y.kind]] w fun e w' => e = .returned (.bool (decide (x = y))) ∧ Below w.heap.size w w' := by
  obtain ⟨x0, x1⟩ := x
  obtain ⟨y0, y1⟩ := y
  dsimp only at *
  by_cases e0 : x0 = y0
  · subst e0
    by_cases e1 : x1 = y1
    · subst e1
      go_enter Tryz.func28, Tryz.ntmps28
      go_wp2
      go_ret
      exact ⟨ret_bool (by simp), by (repeat' (first | with_reducible exact Below.refl _ _ | with_reducible assumption | (with_reducible refine Below.setCell ?_ ?_ _) | (with_reducible refine Below.alloc ?_ ?_ _) | (with_reducible refine below_drewN ?_ _) | (with_reducible refine Below.drew ?_) | omega | (simp; done) | (simp; omega)))⟩
    · have q1 : (x1 != y1) = true := by simp [e1]
      go_enter Tryz.func28, Tryz.ntmps28
      go_wp2
      go_ret
      exact ⟨ret_bool (by simp [e1]), by (repeat' (first | with_reducible exact Below.refl _ _ | with_reducible assumption | (with_reducible refine Below.setCell ?_ ?_ _) | (with_reducible refine Below.alloc ?_ ?_ _) | (with_reducible refine below_drewN ?_ _) | (with_reducible refine Below.drew ?_) | omega | (simp; done) | (simp; omega)))⟩
  · have q0 : (x0 == y0) = false := by simp [e0]
    go_enter Tryz.func28, Tryz.ntmps28
    go_wp2
    go_ret
    exact ⟨ret_bool (by simp [e0]), by (repeat' (first | with_reducible exact Below.refl _ _ | with_reducible assumption | (with_reducible refine Below.setCell ?_ ?_ _) | (with_reducible refine Below.alloc ?_ ?_ _) | (with_reducible refine below_drewN ?_ _) | (with_reducible refine Below.drew ?_) | omega | (simp; done) | (simp; omega)))⟩
set_option maxRecDepth 100000 in
set_option maxHeartbeats 400000 in
theorem eqClashS_any (A1 A2 : Option Addr) (n1 c1 n2 c2 : Nat) (xs ys : List PClash) (w : World) (lo hi lo' hi' : Nat) (h1 : Rep w lo hi (encClashs xs) (.slice A1 n1 c1)) (h2 : Rep w lo' hi' (encClashs ys) (.slice A2 n2 c2)) (hh : hi ≤ w.heap.size) (hh' : hi' ≤ w.heap.size) :
    Calls Tryz.prog 10 #[.slice A1 n1 c1, .slice A2 n2 c2] w fun e w' => e = .returned (.bool (decide (xs = ys))) ∧ Below w.heap.size w w' := by
  have hl1 := Clashs.n h1
  have hl2 := Clashs.n h2
  obtain ⟨hc1, hm1⟩ := Clashs.cap h1
  subst hl1 hl2
  by_cases hn : xs.length = ys.length
  · have hn' : ((xs.length : Int) != (ys.length : Int)) = false := by simp [hn]
    have Hn := Lib.hid hn
    clear hn
    go_enter Tryz.func10, Tryz.ntmps10
    go_wp2
    go_loopw [5] (fun i wr => ∃ k : Nat, k ≤ xs.length ∧ i = .int .i64 k ∧ Hid (xs.take k = ys.take k) ∧ Below w.heap.size w wr) (fun i _ => xs.length - (intOf i).toNat)
    case atStart => exact ⟨0, Nat.zero_le _, rfl, Lib.hid (by simp), Below.refl _ _⟩
    case round =>
      obtain ⟨k, hk, rfl, ht, hb⟩ := hrel
      by_cases hlt : k < xs.length
      · have hs := hb.size
        obtain ⟨b1, o1, x, rfl, _, _, hx, d0, d1⟩ := Clashs.at (h1.keep hb hh) hlt
        obtain ⟨b2, o2, y, rfl, _, _, hy, f0, f1⟩ := Clashs.at (h2.keep hb hh') (k := k) (by have := Hn.out; omega)
        have hlt' : (k : Int) < (xs.length : Int) := by omega
        have hlt2 : (k : Int) < (ys.length : Int) := by have := Hn.out; omega
        have hkey : xs.take (k + 1) = ys.take (k + 1) ↔ x = y := by
          rw [List.take_add_one, List.take_add_one, hx, hy, ht.out]; simp
        have Hk := Lib.hid hkey
        clear hx hy hkey
        by_cases he : x = y
        · have hd : decide (x = y) = true := by simp [he]
          have He := Lib.hid he
          clear he
          go_wp2
          go_still_tail 8, (by kernel_rfl)
          change wpList _ _ _ _ _ (wr.drewN 1)
          go_wp2_with fail
          refine Calls.mono (eqClash_any x y   _ lo hi lo' hi'  ) ?_
          rintro e w2 ⟨rfl, hb2⟩
          have hb2' : Below w.heap.size w w2 := (below_drewN hb 1).trans (hb2.mono (by first | omega | (simp; done) | (simp; omega)))
          go_wp2
          go_roundw
          case rel => exact ⟨k + 1, by omega, by go_num, Lib.hid (Hk.out.2 He.out), hb2'⟩
          case measure => simp [intOf]; omega
        · have hd : decide (x = y) = false := by simp [he]
          go_wp2
          go_still_tail 8, (by kernel_rfl)
          change wpList _ _ _ _ _ (wr.drewN 1)
          go_wp2_with fail
          refine Calls.mono (eqClash_any x y   _ lo hi lo' hi'  ) ?_
          rintro e w2 ⟨rfl, hb2⟩
          have hb2' : Below w.heap.size w w2 := (below_drewN hb 1).trans (hb2.mono (by first | omega | (simp; done) | (simp; omega)))
          go_wp2
          go_ret
          have hne : xs ≠ ys := fun e => he (Hk.out.1 (by rw [e]))
          exact ⟨ret_bool (by simp [hne]), hb2'⟩
      · go_wp2
        go_ret
        have heq : xs = ys := by
          have ht := ht.out
          have hn := Hn.out
          rwa [List.take_of_length_le (by omega), List.take_of_length_le (by omega)] at ht
        exact ⟨ret_bool (by simp [heq]), hb⟩
  · have hn' : ((xs.length : Int) != (ys.length : Int)) = true := by simp; omega
    go_enter Tryz.func10, Tryz.ntmps10
    go_wp2
    go_ret
    have hne : xs ≠ ys := fun e => hn (by rw [e])
    exact ⟨ret_bool (by simp [hne]), Below.refl _ _⟩
end Go.Proofs.YtgcioajaglljfaaGreatDoor
