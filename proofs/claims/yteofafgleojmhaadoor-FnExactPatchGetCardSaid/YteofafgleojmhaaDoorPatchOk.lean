/- Walks: PatchOk, the program's and the reference's. -/
import Derived.Test.YteofafgleojmhaaDoorHHunk
import Derived.Test.YteofafgleojmhaaDoorRange
import Derived.BigGuardPart
namespace Go.Proofs.YteofafgleojmhaaDoor
open Go.RowKit

/-- Where a piece ends. -/
def PHunk.stop (h : PHunk) : Int := h.at_ + h.less.length
def hunkOk (h : PHunk) : Bool := inRange h.at_ 0 10 && (textOk h.less && (textOk h.more && !decide (h.less.length + h.more.length = 0)))
/-- Pieces that are ok, each behind the one ahead. -/
def hunksOk : List PHunk → Bool
  | [] => true
  | [h] => hunkOk h
  | h :: g :: t => hunkOk h && (decide (h.stop < g.at_) && hunksOk (g :: t))
def patchOk (d : List PHunk) : Bool := decide (d.length ≤ 8) && hunksOk d
/-- Piece k is ok, and lies behind the one ahead. -/
def hunkAt (d : List PHunk) (k : Nat) : Bool := match d[k]? with
  | some h => hunkOk h && (match k with
    | 0 => true
    | j + 1 => match d[j]? with
      | some g => decide (g.stop < h.at_)
      | none => true)
  | none => true

theorem hunksOk_snoc : ∀ (d : List PHunk) (g h : PHunk), hunksOk (d ++ [g, h]) = (hunksOk (d ++ [g]) && (decide (g.stop < h.at_) && hunkOk h))
  | [], g, h => by simp only [List.nil_append, hunksOk]
  | [a], g, h => by simp only [List.cons_append, List.nil_append, hunksOk, Bool.and_assoc]
  | a :: b :: t, g, h => by
    have ih := hunksOk_snoc (b :: t) g h
    simp only [List.cons_append] at ih
    simp only [List.cons_append, hunksOk, ih, Bool.and_assoc]
theorem hunksOk_take (d : List PHunk) : ∀ k, k < d.length → hunksOk (d.take (k + 1)) = (hunksOk (d.take k) && hunkAt d k)
  | 0, h => by
    obtain ⟨x, t, rfl⟩ : ∃ x t, d = x :: t := by cases d with | nil => simp at h | cons x t => exact ⟨x, t, rfl⟩
    simp [hunksOk, hunkAt]
  | k + 1, h => by
    have hx : d[k + 1]? = some d[k + 1] := List.getElem?_eq_getElem h
    have hy : d[k]? = some (d[k]'(by omega)) := List.getElem?_eq_getElem (by omega)
    have e1 : d.take (k + 1 + 1) = d.take k ++ [d[k]'(by omega), d[k + 1]] := by rw [List.take_add_one, hx, List.take_add_one, hy]; simp only [Option.toList_some, List.append_assoc, List.cons_append, List.nil_append]
    have e2 : d.take (k + 1) = d.take k ++ [d[k]'(by omega)] := by rw [List.take_add_one, hy]; rfl
    rw [e1, hunksOk_snoc, ← e2]
    simp only [hunkAt, hx, hy]
    rw [Bool.and_comm (hunkOk _)]
theorem hunksOk_false {d : List PHunk} {k : Nat} (h : k < d.length) (hk : hunkAt d k = false) : hunksOk d = false := by
  have h1 : hunksOk (d.take (k + 1)) = false := by rw [hunksOk_take d k h, hk]; simp
  have mono : ∀ m, k + 1 ≤ m → m ≤ d.length → hunksOk (d.take m) = false := by
    intro m hm hml
    obtain ⟨q, rfl⟩ : ∃ q, m = k + 1 + q := ⟨m - (k + 1), by omega⟩
    clear hm
    induction q with
    | zero => exact h1
    | succ q ih => rw [show k + 1 + (q + 1) = (k + 1 + q) + 1 by omega, hunksOk_take d _ (by omega), ih (by omega)]; simp
  have := mono d.length (by omega) (Nat.le_refl _)
  rwa [List.take_length] at this
theorem hunkOk_facts {h : PHunk} (hk : hunkOk h = true) : 0 ≤ h.at_ ∧ h.at_ ≤ 10 ∧ textOk h.less = true ∧ textOk h.more = true ∧ h.less.length ≤ 10 ∧ h.more.length ≤ 10 ∧ 0 < h.less.length + h.more.length := by
  simp [hunkOk, inRange] at hk
  have := textOk_len hk.2.1
  have := textOk_len hk.2.2.1
  refine ⟨hk.1.1, hk.1.2, hk.2.1, hk.2.2.1, by omega, by omega, ?_⟩
  rcases hk.2.2.2 with h3 | h3
  · have : 0 < h.less.length := List.length_pos_iff.2 h3
    omega
  · have : 0 < h.more.length := List.length_pos_iff.2 h3
    omega

set_option maxHeartbeats 400000 in
theorem impl_end_any (x : PHunk) (A1 A2 : Option Addr) (n1 c1 n2 c2 : Nat) (w : World) (lo hi : Nat) (h1 : Rep w lo hi (encText x.less) (.slice A1 n1 c1)) (ha : 0 ≤ x.at_) (hb : x.at_ ≤ 10) (hl : x.less.length ≤ 10) :
    Calls Tryd.prog 28 #[.agg #[.int .i64 x.at_, .slice A1 n1 c1, .slice A2 n2 c2]] w fun e w' => e = .returned (.int .i64 x.stop) ∧ Below w.heap.size w w' := by
  have hn := Text.n h1
  subst hn
  unfold PHunk.stop
  go_enter Tryd.func28, Tryd.ntmps28
  go_wp2
  go_ret
  exact ⟨rfl, by (repeat' (first | with_reducible exact Below.refl _ _ | with_reducible assumption | (with_reducible refine Below.setCell ?_ ?_ _) | (with_reducible refine Below.alloc ?_ ?_ _) | (with_reducible refine below_drewN ?_ _) | (with_reducible refine Below.drew ?_) | omega | (simp; done) | (simp; omega)))⟩


/-- The ways of one piece's test. -/
theorem hunkAt_less {d : List PHunk} {k : Nat} {x : PHunk} (hx : d[k]? = some x) (h : textOk x.less = false) : hunkAt d k = false := by simp [hunkAt, hx, hunkOk, h]
theorem hunkAt_more {d : List PHunk} {k : Nat} {x : PHunk} (hx : d[k]? = some x) (h : textOk x.more = false) : hunkAt d k = false := by simp [hunkAt, hx, hunkOk, h]
theorem hunkAt_none {d : List PHunk} {k : Nat} {x : PHunk} (hx : d[k]? = some x) (h : x.less.length + x.more.length = 0) : hunkAt d k = false := by
  have h1 : x.less = [] := List.eq_nil_of_length_eq_zero (by omega)
  have h2 : x.more = [] := List.eq_nil_of_length_eq_zero (by omega)
  simp [hunkAt, hx, hunkOk, h1, h2]
theorem hunkAt_range {d : List PHunk} {k : Nat} {x : PHunk} (hx : d[k]? = some x) (h : inRange x.at_ 0 10 = false) : hunkAt d k = false := by simp [hunkAt, hx, hunkOk, h]
theorem hunkAt_prev {d : List PHunk} {k : Nat} {x y : PHunk} (hk : 0 < k) (hx : d[k]? = some x) (hy : d[k - 1]? = some y) (h : x.at_ ≤ y.stop) : hunkAt d k = false := by
  obtain ⟨j, rfl⟩ : ∃ j, k = j + 1 := ⟨k - 1, by omega⟩
  simp only [Nat.add_sub_cancel] at hy
  simp [hunkAt, hx, hy]; intro _; omega
theorem hunkAt_yes {d : List PHunk} {k : Nat} {x : PHunk} (hx : d[k]? = some x) (h1 : textOk x.less = true) (h2 : textOk x.more = true) (h3 : x.less.length + x.more.length ≠ 0) (h4 : inRange x.at_ 0 10 = true)
    (h5 : ∀ j y, k = j + 1 → d[j]? = some y → y.stop < x.at_) : hunkAt d k = true := by
  have hok : hunkOk x = true := by simp only [hunkOk, h1, h2, h4, decide_eq_false h3]; rfl
  cases k with
  | zero => simp [hunkAt, hx, hok]
  | succ j =>
    simp only [hunkAt, hx, hok, Bool.true_and]
    cases hy : d[j]? with
    | none => rfl
    | some y => simpa using h5 j y rfl hy
theorem patchOk_false {d : List PHunk} {k : Nat} (hk : k < d.length) (h : hunkAt d k = false) : patchOk d = false := by
  unfold patchOk; rw [hunksOk_false hk h]; simp
theorem hunkOk_of_take {d : List PHunk} {k : Nat} {y : PHunk} (h : hunksOk (d.take (k + 1)) = true) (hy : d[k]? = some y) : hunkOk y = true := by
  have hk : k < d.length := (List.getElem?_eq_some_iff.1 hy).1
  rw [hunksOk_take d k hk] at h
  have h2 : hunkAt d k = true := by simp only [Bool.and_eq_true] at h; exact h.2
  unfold hunkAt at h2
  rw [hy] at h2
  simp only [Bool.and_eq_true] at h2
  exact h2.1

set_option maxRecDepth 100000 in
set_option maxHeartbeats 2000000 in
theorem spec_l2Ok_any (A : Option Addr) (n c : Nat) (xs : List PHunk) (w : World) (lo hi : Nat) (h : Rep w lo hi (encHunks xs) (.slice A n c)) (hs : ∀ x ∈ xs, okHunk x) :
    Calls Tryd.prog 11 #[.slice A n c] w fun e w' => e = .returned (.bool (patchOk xs)) ∧ ∃ m, w' = w.drewN m := by
  have hl := Hunks.n h
  obtain ⟨hc, hm⟩ := Hunks.cap h
  subst hl
  go_enter Tryd.func11, Tryd.ntmps11
  go_wp2
  go_loopw [3] (fun i wr => ∃ k : Nat, k ≤ xs.length ∧ i = .int .i64 k ∧ Hid (hunksOk (xs.take k) = true) ∧ ∃ m, wr = w.drewN m) (fun i _ => xs.length - (intOf i).toNat)
  case atStart => exact ⟨0, Nat.zero_le _, rfl, Lib.hid (by simp [hunksOk]), 0, rfl⟩
  case round =>
    obtain ⟨k, hk, rfl, ht, m, hw⟩ := hrel
    replace h : Rep wr lo hi (encHunks xs) (.slice A xs.length c) := by rw [hw]; exact h.drewN m
    have Hw := Lib.hid hw
    clear hw
    by_cases hkn : k < xs.length
    · have hkn' : (k : Int) < (xs.length : Int) := by omega
      obtain ⟨b1, o1, x, rfl, _, _, hx, A1, n1, c1, A2, n2, c2, d0, d1, r1, d2, r2⟩ := Hunks.at h hkn
      obtain ⟨_, ok1, ok2⟩ := hs x (List.mem_of_getElem? hx)
      have hok := hunksOk_take xs k hkn
      have e1 := Text.n r1
      have e2 := Text.n r2
      subst e1 e2
      have Hx := Lib.hid hx
      have Hok := Lib.hid hok
      clear hx hok hs
      go_wp2
      refine wp_region_quiet_lit (by kernel_rfl) (by kernel_rfl) ?_; try simp only [List.append_eq, List.cons_append, List.nil_append]
      cases t1 : textOk x.less
      · repeat (go_big_quiet_step (((first | (go_at_call 20; first | (with_reducible exact quiet_left (spec_l1Ok_any _ _ _ x.less _ _ _ (r1.drewN _) ok1)) | (with_reducible exact quiet_left (spec_l1Ok_any _ _ _ x.more _ _ _ (r2.drewN _) ok2))) | (go_at_call 21; with_reducible exact quiet_left (spec_l1In_any _ _ _ _))))))
        (refine wpQuiet_nil ?_; intro _ hw'; obtain ⟨nq, hw''⟩ := hw'; subst hw'')
        go_wp2
        go_ret
        exact ⟨ret_bool (by rw [patchOk_false hkn (hunkAt_less Hx.out t1)]), m + nq, by rw [Hw.out]; simp⟩
      · cases t2 : textOk x.more
        · repeat (go_big_quiet_step (((first | (go_at_call 20; first | (with_reducible exact quiet_left (spec_l1Ok_any _ _ _ x.less _ _ _ (r1.drewN _) ok1)) | (with_reducible exact quiet_left (spec_l1Ok_any _ _ _ x.more _ _ _ (r2.drewN _) ok2))) | (go_at_call 21; with_reducible exact quiet_left (spec_l1In_any _ _ _ _))))))
          (refine wpQuiet_nil ?_; intro _ hw'; obtain ⟨nq, hw''⟩ := hw'; subst hw'')
          go_wp2
          go_ret
          exact ⟨ret_bool (by rw [patchOk_false hkn (hunkAt_more Hx.out t2)]), m + nq, by rw [Hw.out]; simp⟩
        · have l1 := textOk_len t1
          have l2 := textOk_len t2
          by_cases t3 : x.less.length + x.more.length = 0
          · have q3 : ((x.less.length : Int) + (x.more.length : Int) == 0) = true := by simp; omega
            repeat (go_big_quiet_step (((first | (go_at_call 20; first | (with_reducible exact quiet_left (spec_l1Ok_any _ _ _ x.less _ _ _ (r1.drewN _) ok1)) | (with_reducible exact quiet_left (spec_l1Ok_any _ _ _ x.more _ _ _ (r2.drewN _) ok2))) | (go_at_call 21; with_reducible exact quiet_left (spec_l1In_any _ _ _ _))))))
            (refine wpQuiet_nil ?_; intro _ hw'; obtain ⟨nq, hw''⟩ := hw'; subst hw'')
            go_wp2
            go_ret
            exact ⟨ret_bool (by rw [patchOk_false hkn (hunkAt_none Hx.out t3)]), m + nq, by rw [Hw.out]; simp⟩
          · have q3 : ((x.less.length : Int) + (x.more.length : Int) == 0) = false := by simp; omega
            cases t4 : inRange x.at_ 0 10
            · repeat (go_big_quiet_step (((first | (go_at_call 20; first | (with_reducible exact quiet_left (spec_l1Ok_any _ _ _ x.less _ _ _ (r1.drewN _) ok1)) | (with_reducible exact quiet_left (spec_l1Ok_any _ _ _ x.more _ _ _ (r2.drewN _) ok2))) | (go_at_call 21; with_reducible exact quiet_left (spec_l1In_any _ _ _ _))))))
              (refine wpQuiet_nil ?_; intro _ hw'; obtain ⟨nq, hw''⟩ := hw'; subst hw'')
              go_wp2
              go_ret
              exact ⟨ret_bool (by rw [patchOk_false hkn (hunkAt_range Hx.out t4)]), m + nq, by rw [Hw.out]; simp⟩
            · by_cases t5 : k ≤ 0
              · have q5 : decide (0 < k) = false := by simp; omega
                have hyes := hunkAt_yes Hx.out t1 t2 t3 t4 (fun j y e _ => absurd e (by omega))
                repeat (go_big_quiet_step (((first | (go_at_call 20; first | (with_reducible exact quiet_left (spec_l1Ok_any _ _ _ x.less _ _ _ (r1.drewN _) ok1)) | (with_reducible exact quiet_left (spec_l1Ok_any _ _ _ x.more _ _ _ (r2.drewN _) ok2))) | (go_at_call 21; with_reducible exact quiet_left (spec_l1In_any _ _ _ _))))))
                (refine wpQuiet_nil ?_; intro _ hw'; obtain ⟨nq, hw''⟩ := hw'; subst hw'')
                go_wp2
                go_roundw
                case rel => exact ⟨k + 1, by omega, by go_num, Lib.hid (by rw [Hok.out, ht.out, hyes]; rfl), m + nq, by rw [Hw.out]; simp⟩
                case measure => simp [intOf]; omega
              · have q5 : decide (0 < k) = true := by simp; omega
                have q6 : (1 : Int) ≤ (k : Int) := by omega
                have q7 : (k : Int) - 1 < (xs.length : Int) := by omega
                obtain ⟨b3, o3, y, hb3, _, _, hy, A3, n3, c3, A4, n4, c4, f0, f1, r3, f2, r4⟩ := Hunks.at h (k := k - 1) (by omega)
                simp only [Option.some.injEq, Addr.mk.injEq, and_true] at hb3
                obtain ⟨rfl, rfl⟩ := hb3
                have hyk : hunkOk y = true := by
                  have h2 := ht.out
                  rw [show k = k - 1 + 1 by omega] at h2
                  exact hunkOk_of_take h2 hy
                obtain ⟨y1, y2, _, _, y3, _, _⟩ := hunkOk_facts hyk
                have e3 := Text.n r3
                subst e3
                have Hy := Lib.hid hy
                clear hy hyk
                by_cases t6 : x.at_ ≤ y.at_ + (y.less.length : Int)
                · repeat (go_big_quiet_step (((first | (go_at_call 20; first | (with_reducible exact quiet_left (spec_l1Ok_any _ _ _ x.less _ _ _ (r1.drewN _) ok1)) | (with_reducible exact quiet_left (spec_l1Ok_any _ _ _ x.more _ _ _ (r2.drewN _) ok2))) | (go_at_call 21; with_reducible exact quiet_left (spec_l1In_any _ _ _ _))))))
                  (refine wpQuiet_nil ?_; intro _ hw'; obtain ⟨nq, hw''⟩ := hw'; subst hw'')
                  go_wp2
                  go_ret
                  exact ⟨ret_bool (by rw [patchOk_false hkn (hunkAt_prev (by omega) Hx.out Hy.out t6)]), m + nq, by rw [Hw.out]; simp⟩
                · have hyes := hunkAt_yes Hx.out t1 t2 t3 t4 (fun j' y' e hy' => by
                    have hy2 := Hy.out
                    rw [show k - 1 = j' by omega, hy'] at hy2
                    obtain rfl := Option.some.inj hy2
                    unfold PHunk.stop; omega)
                  repeat (go_big_quiet_step (((first | (go_at_call 20; first | (with_reducible exact quiet_left (spec_l1Ok_any _ _ _ x.less _ _ _ (r1.drewN _) ok1)) | (with_reducible exact quiet_left (spec_l1Ok_any _ _ _ x.more _ _ _ (r2.drewN _) ok2))) | (go_at_call 21; with_reducible exact quiet_left (spec_l1In_any _ _ _ _))))))
                  (refine wpQuiet_nil ?_; intro _ hw'; obtain ⟨nq, hw''⟩ := hw'; subst hw'')
                  go_wp2
                  go_roundw
                  case rel => exact ⟨k + 1, by omega, by go_num, Lib.hid (by rw [Hok.out, ht.out, hyes]; rfl), m + nq, by rw [Hw.out]; simp⟩
                  case measure => simp [intOf]; omega
    · have ht := ht.out
      rw [List.take_of_length_le (by omega)] at ht
      by_cases h8 : xs.length ≤ 8
      all_goals
        go_wp2
        go_ret
        exact ⟨ret_bool (by simp [patchOk, ht]; omega), m, Hw.out⟩


end Go.Proofs.YteofafgleojmhaaDoor
