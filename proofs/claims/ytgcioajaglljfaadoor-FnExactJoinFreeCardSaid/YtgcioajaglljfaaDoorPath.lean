/- Walks: names and paths: the program's nameOk, PathOk, PathIn, the reference's l4Name, l1Cut, l4Path, l4In, and strings.Split at one byte. -/
import Derived.Test.YtgcioajaglljfaaDoorPathPlain
import Derived.Test.YtgcioajaglljfaaDoorRange
import Derived.Test.YtgcioajaglljfaaDoorLit
import Derived.Test.YtgcioajaglljfaaDoorShelf
import Derived.Lib.IndexBytes
namespace Go.Proofs.YtgcioajaglljfaaDoor
open Go.RowKit

theorem nameOk_len {s : Str} (h : inRange s.length 1 6 = false) : nameOk s = false := by
  simp [inRange] at h
  simp [nameOk]
  omega
theorem nameOk_byte {s : Str} {k : Nat} {c : UInt8} (hc : s[k]? = some c) (h : wordB c = false) : nameOk s = false := by
  unfold nameOk; rw [all_false hc h]; simp
theorem nameOk_all {s : Str} (h : s.all wordB = true) : nameOk s = inRange s.length 1 6 := by
  unfold nameOk; rw [h]
  rw [Bool.eq_iff_iff]
  simp [inRange]
  omega
theorem pathOk_piece {s : Str} {x : Str} (h : x ∈ cutN 47 3 s) (hx : nameOk x = false) : pathOk s = false := by
  unfold pathOk
  cases hc : (cutN 47 3 s).all nameOk with
  | false => simp
  | true => rw [List.all_eq_true] at hc; rw [hc x h] at hx; cases hx

set_option maxHeartbeats 400000 in
theorem impl_wordByte_any (b : UInt8) (w : World) :
    Calls Tryd.prog 60 #[.int .u8 b.toNat] w fun e w' => e = .returned (.bool (wordB b)) ∧ w = w' := by
  have hb : b.toNat < 256 := b.toNat_lt
  by_cases h1 : (97 : Int) ≤ b.toNat
  · by_cases h2 : (b.toNat : Int) ≤ 122
    · go_enter Tryd.func60, Tryd.ntmps60
      go_wp2
      go_ret
      exact ⟨ret_bool (by unfold wordB; simp; omega), rfl⟩
    · have h3 : (48 : Int) ≤ b.toNat := by omega
      have h4 : ¬ (b.toNat : Int) ≤ 57 := by omega
      go_enter Tryd.func60, Tryd.ntmps60
      go_wp2
      go_ret
      exact ⟨ret_bool (by unfold wordB; simp; omega), rfl⟩
  · by_cases h3 : (48 : Int) ≤ b.toNat
    · by_cases h4 : (b.toNat : Int) ≤ 57
      all_goals
        go_enter Tryd.func60, Tryd.ntmps60
        go_wp2
        go_ret
        exact ⟨ret_bool (by unfold wordB; simp; omega), rfl⟩
    · go_enter Tryd.func60, Tryd.ntmps60
      go_wp2
      go_ret
      exact ⟨ret_bool (by unfold wordB; simp; omega), rfl⟩

set_option maxHeartbeats 400000 in
theorem impl_nameOk_any (s : Str) (w : World) (hs : s.length ≤ 9223372036854775807) :
    Calls Tryd.prog 45 #[.string ⟨s.toArray⟩] w fun e w' => e = .returned (.bool (nameOk s)) ∧ w = w' := by
  cases hr : inRange s.length 1 6
  · have hn := nameOk_len hr
    go_enter Tryd.func45, Tryd.ntmps45
    go_wp2_with (go_at_call 59; refine (impl_within_any _ _ _ _).mono ?_; rintro e w' ⟨rfl, rfl⟩)
    go_ret
    exact ⟨ret_bool hn.symm, rfl⟩
  · go_enter Tryd.func45, Tryd.ntmps45
    go_wp2_with (go_at_call 59; refine (impl_within_any _ _ _ _).mono ?_; rintro e w' ⟨rfl, rfl⟩)
    go_loop [3] (fun i => ∃ k : Nat, k ≤ s.length ∧ i = .int .i64 k ∧ Hid ((s.take k).all wordB = true)) (fun i => s.length - (intOf i).toNat)
    case atStart => exact ⟨0, Nat.zero_le _, rfl, Lib.hid (by simp)⟩
    case round =>
      obtain ⟨k, hk, rfl, ht⟩ := hrel
      by_cases hkn : k < s.length
      · have hkn' : (k : Int) < (s.length : Int) := by omega
        obtain ⟨c, hc⟩ : ∃ c, s[k]? = some c := ⟨_, List.getElem?_eq_getElem hkn⟩
        have hb := byte_at hc (by rw [size_mk]; exact hkn)
        have Hc := Lib.hid hc
        clear hc
        cases hw : wordB c
        · go_wp2_with (go_at_call 60; refine (impl_wordByte_any _ _).mono ?_; rintro e w' ⟨rfl, rfl⟩)
          go_ret
          exact ⟨ret_bool (nameOk_byte Hc.out hw).symm, rfl⟩
        · go_wp2_with (go_at_call 60; refine (impl_wordByte_any _ _).mono ?_; rintro e w' ⟨rfl, rfl⟩)
          go_round
          case rel => exact ⟨k + 1, by omega, by go_num, Lib.hid (all_take_succ Hc.out ht.out hw)⟩
          case measure => simp [intOf]; omega
      · go_wp2
        go_ret
        have ht := ht.out
        rw [List.take_of_length_le (by omega)] at ht
        exact ⟨ret_bool (by rw [nameOk_all ht, hr]), rfl⟩

set_option maxHeartbeats 800000 in
theorem spec_l4Name_any (s : Str) (w : World) (hs : s.length ≤ 9223372036854775807) :
    Calls Tryd.prog 34 #[.string ⟨s.toArray⟩] w fun e w' => e = .returned (.bool (nameOk s)) ∧ w = w' := by
  go_enter Tryd.func34, Tryd.ntmps34
  go_wp2
  go_loop [3] (fun i => ∃ k : Nat, k ≤ s.length ∧ i = .int .i64 k ∧ Hid ((s.take k).all wordB = true)) (fun i => s.length - (intOf i).toNat)
  case atStart => exact ⟨0, Nat.zero_le _, rfl, Lib.hid (by simp)⟩
  case round =>
    obtain ⟨k, hk, rfl, ht⟩ := hrel
    by_cases hkn : k < s.length
    · have hkn' : (k : Int) < (s.length : Int) := by omega
      obtain ⟨c, hc⟩ : ∃ c, s[k]? = some c := ⟨_, List.getElem?_eq_getElem hkn⟩
      have hb := byte_at hc (by rw [size_mk]; exact hkn)
      have Hc := Lib.hid hc
      clear hc
      by_cases h1 : (c.toNat : Int) < 97
      · by_cases h3 : (c.toNat : Int) < 48
        · go_wp2
          go_ret
          exact ⟨ret_bool (nameOk_byte Hc.out (by unfold wordB; simp; omega)).symm, rfl⟩
        · by_cases h4 : (57 : Int) < (c.toNat : Int)
          · go_wp2
            go_ret
            exact ⟨ret_bool (nameOk_byte Hc.out (by unfold wordB; simp; omega)).symm, rfl⟩
          · go_wp2
            go_round
            case rel => exact ⟨k + 1, by omega, by go_num, Lib.hid (all_take_succ Hc.out ht.out (by unfold wordB; simp; omega))⟩
            case measure => simp [intOf]; omega
      · by_cases h2 : (122 : Int) < (c.toNat : Int)
        · have h3 : ¬ (c.toNat : Int) < 48 := by omega
          have h4 : (57 : Int) < (c.toNat : Int) := by omega
          go_wp2
          go_ret
          exact ⟨ret_bool (nameOk_byte Hc.out (by unfold wordB; simp; omega)).symm, rfl⟩
        · go_wp2
          go_round
          case rel => exact ⟨k + 1, by omega, by go_num, Lib.hid (all_take_succ Hc.out ht.out (by unfold wordB; simp; omega))⟩
          case measure => simp [intOf]; omega
    · have ht := ht.out
      rw [List.take_of_length_le (by omega)] at ht
      go_wp2_with (go_at_call 42; refine (spec_l1In_any _ _ _ _).mono ?_; rintro e w' ⟨rfl, rfl⟩)
      go_ret
      exact ⟨ret_bool (nameOk_all ht).symm, rfl⟩
end Go.Proofs.YtgcioajaglljfaaDoor
