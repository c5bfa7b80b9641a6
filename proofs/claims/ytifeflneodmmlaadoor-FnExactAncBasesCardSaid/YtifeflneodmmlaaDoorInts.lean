/- Walks: sz, to, eq of []int. -/
import Derived.Test.YtifeflneodmmlaaDoorText
namespace Go.Proofs.YtifeflneodmmlaaDoor
open Go.RowKit

set_option maxHeartbeats 400000 in
theorem eqIntS_any (A1 A2 : Option Addr) (n1 c1 n2 c2 : Nat) (xs ys : List Int) (w : World) (lo hi lo' hi' : Nat) (h1 : Rep w lo hi (encInts xs) (.slice A1 n1 c1)) (h2 : Rep w lo' hi' (encInts ys) (.slice A2 n2 c2)) :
    Calls Tryd.prog 8 #[.slice A1 n1 c1, .slice A2 n2 c2] w fun e w' => e = .returned (.bool (decide (xs = ys))) ∧ ∃ k, w' = w.drewN k := by
  have hl1 := Ints.n h1
  have hl2 := Ints.n h2
  obtain ⟨hc1, hm1⟩ := Ints.cap h1
  subst hl1 hl2
  by_cases hn : xs.length = ys.length
  · have hn' : ((xs.length : Int) != (ys.length : Int)) = false := by simp [hn]
    have Hn := Lib.hid hn
    clear hn
    go_enter Tryd.func8, Tryd.ntmps8
    go_wp2
    go_loopw [5] (fun i wr => ∃ k : Nat, k ≤ xs.length ∧ i = .int .i64 k ∧ Hid (xs.take k = ys.take k) ∧ ∃ m, wr = w.drewN m) (fun i _ => xs.length - (intOf i).toNat)
    case atStart => exact ⟨0, Nat.zero_le _, rfl, Lib.hid (by simp), 0, rfl⟩
    case round =>
      obtain ⟨k, hk, rfl, ht, m, rfl⟩ := hrel
      by_cases hlt : k < xs.length
      · obtain ⟨b1, o1, s1, rfl, _, _, hs1, hcell1⟩ := Ints.at h1 hlt
        obtain ⟨b2, o2, s2, rfl, _, _, hs2, hcell2⟩ := Ints.at h2 (k := k) (by have := Hn.out; omega)
        have hlt' : (k : Int) < (xs.length : Int) := by omega
        have hlt2 : (k : Int) < (ys.length : Int) := by have := Hn.out; omega
        have hkey : xs.take (k + 1) = ys.take (k + 1) ↔ s1 = s2 := by
          rw [List.take_add_one, List.take_add_one, hs1, hs2, ht.out]; simp
        have Hk := Lib.hid hkey
        have H1 := Lib.hid hs1
        have H2 := Lib.hid hs2
        clear hs1 hs2 hkey
        by_cases he : s1 = s2
        · subst he
          go_wp2
          go_quiet (fail)
          go_wp2
          go_roundw
          case rel => exact ⟨k + 1, by omega, by go_num, Lib.hid (Hk.out.2 (by simp)), m + nq, by simp⟩
          case measure => simp [intOf]; omega
        · have hb : (s1 != s2) = true := by simp [he]
          go_wp2
          go_quiet (fail)
          go_wp2
          go_ret
          refine ⟨?_, m + nq, by simp⟩
          have : xs ≠ ys := fun e => he (Hk.out.1 (by rw [e]))
          simp [this]
      · go_wp2
        go_ret
        refine ⟨?_, m, rfl⟩
        have : xs = ys := by
          have ht := ht.out
          have hn := Hn.out
          rwa [List.take_of_length_le (by omega), List.take_of_length_le (by omega)] at ht
        simp [this]
  · have hn' : ((xs.length : Int) != (ys.length : Int)) = true := by simp; omega
    go_enter Tryd.func8, Tryd.ntmps8
    go_wp2
    go_ret
    refine ⟨?_, 0, rfl⟩
    have : xs ≠ ys := fun e => hn (by rw [e])
    simp [this]

theorem owns_intsT (w : World) : ∀ xs : List Int, Owns w (xs.flatMap cInts) (xs.map fun s => .int .i64 s) []
  | [] => ⟨rfl, rfl⟩
  | _ :: xs => ⟨_, _, [], [], rfl, rfl, ⟨rfl, rfl⟩, owns_intsT w xs⟩
theorem Tryd.infoIntT : (Tryd.prog.info? 3).map (fun i => (i.zero, i.size, i.bytes)) = some (some (.int .i64 0), 1, 8) := by kernel_rfl
set_option maxHeartbeats 400000 in
theorem toIntS_any (A : Option Addr) (n c : Nat) (xs : List Int) (w : World) (lo hi : Nat) (h : Rep w lo hi (encInts xs) (.slice A n c)) (hh : hi ≤ w.heap.size) (hn : xs.length ≤ 1048576) :
    Calls Tryd.prog 48 #[.slice A n c] w fun e w' => ∃ A' n' c', e = .returned (.slice A' n' c') ∧ Below w.heap.size w w' ∧ Fresh w' w.heap.size w'.heap.size (encInts xs) (.slice A' n' c') := by
  have hl := Ints.n h
  obtain ⟨hc, hm⟩ := Ints.cap h
  subst hl
  obtain ⟨i, hi0, hi1, hi2, hi3⟩ := info_parts Tryd.infoIntT
  go_enter Tryd.func48, Tryd.ntmps48
  go_wp2_with (at_make; refine wpList_make_full _ rfl _ _ _ rfl w.heap.size 3 i _ 1 Tryd.underlying27 hi0 hi1 hi2 _ _ _ _ xs.length rfl rfl rfl rfl ?c1 ?c2 ?c3 ?_)
  case c1 => rw [hi3]; omega
  case c2 => unfold maxLen; omega
  case c3 => exact Nat.le_refl _
  intro w1 hown hg
  have hb1 : Below w.heap.size w w1 := (Below.refl _ _).grown hg (Nat.le_refl _) (by simp)
  go_wp2
  go_loopw [4] (fun i wr => ∃ k : Nat, ∃ us : List Value, k ≤ xs.length ∧ i = .int .i64 k ∧ wr.ownsRow w.heap.size 3 1 (.slice (some ⟨w.heap.size, 0, none⟩) xs.length xs.length) xs.length us ∧
      Hid (us.take k = (xs.take k).map fun s => .int .i64 s) ∧ Below w.heap.size w wr ∧ w.heap.size < wr.heap.size) (fun i _ => xs.length - (intOf i).toNat)
  case atStart => exact ⟨0, _, Nat.zero_le _, rfl, hown, Lib.hid (by simp), hb1, (hown.lt _ rfl).2⟩
  case round =>
    obtain ⟨k, us, hk, rfl, hown, ht, hb, hsz⟩ := hrel
    by_cases hkn : k < xs.length
    · obtain ⟨b1, o1, s1, rfl, _, _, hs1, hcell1⟩ := Ints.at (h.keep hb hh) hkn
      have hkn' : (k : Int) < (xs.length : Int) := by omega
      have hul := hown.1
      obtain ⟨u0, hu0⟩ : ∃ u0, us[k]? = some u0 := ⟨us[k]'(by omega), List.getElem?_eq_getElem (by omega)⟩
      have hcell := hown.cellAt k (by omega)
      rw [hu0] at hcell
      have hfr := hown.frozenAt k
      have hnew := hown.stored k (.int .i64 s1)
      have hstep : (us.set k (.int .i64 s1)).take (k + 1) = (xs.take (k + 1)).map fun s => .int .i64 s := by
        have ht := ht.out
        rw [List.take_add_one, List.take_add_one, hs1, List.take_set_of_le (by omega), ht, List.getElem?_set_self (by omega)]
        simp
      have H1 := Lib.hid hstep
      clear hstep hs1 hu0 hul
      go_wp2
      go_roundw
      case rel => exact ⟨k + 1, _, by omega, by go_num, hnew.1, H1, hb.setCell (Nat.le_refl _) _, by simpa using hsz⟩
      case measure => simp [intOf]; omega
    · go_wp2
      go_ret
      refine ⟨_, _, _, rfl, hb, ?_⟩
      have ht := ht.out
      have hul := hown.1
      rw [List.take_of_length_le (by omega), List.take_of_length_le (by omega)] at ht
      subst ht
      exact Fresh.of_row hown (owns_intsT _ xs)

set_option maxHeartbeats 400000 in
theorem szIntS_any (A : Option Addr) (n c : Nat) (xs : List Int) (w : World) (lo hi : Nat) (left : Int) (h : Rep w lo hi (encInts xs) (.slice A n c)) (h0 : 0 ≤ left) (h1 : left ≤ 1048576) :
    Calls Tryd.prog 43 #[.slice A n c, .int .i64 left] w fun e w' => (∃ r : Int, e = .returned (.int .i64 r) ∧ -1 ≤ r ∧ r ≤ left ∧ (0 ≤ r → (xs.length : Int) ≤ left - r)) ∧ w = w' := by
  have hl := Ints.n h
  obtain ⟨hc, hm⟩ := Ints.cap h
  subst hl
  by_cases hlt : left - (xs.length : Int) < 0
  · go_enter Tryd.func43, Tryd.ntmps43
    go_wp2
    go_ret
    exact ⟨⟨-1, rfl, by omega, by omega, by omega⟩, rfl⟩
  · go_enter Tryd.func43, Tryd.ntmps43
    go_wp2
    go_ret
    exact ⟨⟨_, rfl, by omega, by omega, fun _ => by omega⟩, rfl⟩
end Go.Proofs.YtifeflneodmmlaaDoor
