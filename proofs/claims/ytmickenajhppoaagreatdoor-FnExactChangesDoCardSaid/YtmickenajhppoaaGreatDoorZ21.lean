/- Several of my texts in one: Path, Path2. -/
import Derived.Test.YtmickenajhppoaaGreatDoorPathPlain
import Derived.Test.YtmickenajhppoaaGreatDoorZ02
import Derived.Test.YtmickenajhppoaaGreatDoorZ10
import Derived.Test.YtmickenajhppoaaGreatDoorShelf
import Derived.Lib.IndexBytes
/- Walks: names and paths: the program's nameOk, PathOk, PathIn, the reference's l4Name, l1Cut, l4Path, l4In, and strings.Split at one byte. -/
namespace Go.Proofs.YtmickenajhppoaaGreatDoor
open Go.RowKit

theorem nameOk_len {s : Str} (h : inRange s.length 1 6 = false) : nameOk s = false := by
  simp [inRange] at h
  simp [nameOk]
  omega
theorem nameOk_byte {s : Str} {k : Nat} {c : UInt8} (hc : s[k]? = some c) (h : wordB c = false) : nameOk s = false := by
  unfold nameOk; rw [all_false hc h]; simp
theorem nameOk_all {s : Str} (h : s.all wordB = true) : nameOk s = inRange s.length 1 6 := by
  unfold nameOk; rw [h]
  rw [Bool.eq_iff_iff]
  simp [inRange]
  omega
theorem pathOk_piece {s : Str} {x : Str} (h : x ∈ cutN 47 3 s) (hx : nameOk x = false) : pathOk s = false := by
  unfold pathOk
  cases hc : (cutN 47 3 s).all nameOk with
  | false => simp
  | true => rw [List.all_eq_true] at hc; rw [hc x h] at hx; cases hx

set_option maxHeartbeats 400000 in
theorem impl_wordByte_any (b : UInt8) (w : World) :
    Calls Tryz.prog 82 #[.int .u8 b.toNat] w fun e w' => e = .returned (.bool (wordB b)) ∧ w = w' := by
  have hb : b.toNat < 256 := b.toNat_lt
  by_cases h1 : (97 : Int) ≤ b.toNat
  · by_cases h2 : (b.toNat : Int) ≤ 122
    · go_enter Tryz.func82, Tryz.ntmps82
      go_wp2
      go_ret
      exact ⟨ret_bool (by unfold wordB; simp; omega), rfl⟩
    · have h3 : (48 : Int) ≤ b.toNat := by omega
      have h4 : ¬ (b.toNat : Int) ≤ 57 := by omega
      go_enter Tryz.func82, Tryz.ntmps82
      go_wp2
      go_ret
      exact ⟨ret_bool (by unfold wordB; simp; omega), rfl⟩
  · by_cases h3 : (48 : Int) ≤ b.toNat
    · by_cases h4 : (b.toNat : Int) ≤ 57
      all_goals
        go_enter Tryz.func82, Tryz.ntmps82
        go_wp2
        go_ret
        exact ⟨ret_bool (by unfold wordB; simp; omega), rfl⟩
    · go_enter Tryz.func82, Tryz.ntmps82
      go_wp2
      go_ret
      exact ⟨ret_bool (by unfold wordB; simp; omega), rfl⟩

set_option maxHeartbeats 400000 in
theorem impl_nameOk_any (s : Str) (w : World) (hs : s.length ≤ 9223372036854775807) :
    Calls Tryz.prog 73 #[.string ⟨s.toArray⟩] w fun e w' => e = .returned (.bool (nameOk s)) ∧ w = w' := by
  cases hr : inRange s.length 1 6
  · have hn := nameOk_len hr
    go_enter Tryz.func73, Tryz.ntmps73
    go_wp2_with (go_at_call 76; refine (impl_within_any _ _ _ _).mono ?_; rintro e w' ⟨rfl, rfl⟩)
    go_ret
    exact ⟨ret_bool hn.symm, rfl⟩
  · go_enter Tryz.func73, Tryz.ntmps73
    go_wp2_with (go_at_call 76; refine (impl_within_any _ _ _ _).mono ?_; rintro e w' ⟨rfl, rfl⟩)
    go_loop [3] (fun i => ∃ k : Nat, k ≤ s.length ∧ i = .int .i64 k ∧ Hid ((s.take k).all wordB = true)) (fun i => s.length - (intOf i).toNat)
    case atStart => exact ⟨0, Nat.zero_le _, rfl, Lib.hid (by simp)⟩
    case round =>
      obtain ⟨k, hk, rfl, ht⟩ := hrel
      by_cases hkn : k < s.length
      · have hkn' : (k : Int) < (s.length : Int) := by omega
        obtain ⟨c, hc⟩ : ∃ c, s[k]? = some c := ⟨_, List.getElem?_eq_getElem hkn⟩
        have hb := byte_at hc (by rw [size_mk]; exact hkn)
        have Hc := Lib.hid hc
        clear hc
        cases hw : wordB c
        · go_wp2_with (go_at_call 82; refine (impl_wordByte_any _ _).mono ?_; rintro e w' ⟨rfl, rfl⟩)
          go_ret
          exact ⟨ret_bool (nameOk_byte Hc.out hw).symm, rfl⟩
        · go_wp2_with (go_at_call 82; refine (impl_wordByte_any _ _).mono ?_; rintro e w' ⟨rfl, rfl⟩)
          go_round
          case rel => exact ⟨k + 1, by omega, by go_num, Lib.hid (all_take_succ Hc.out ht.out hw)⟩
          case measure => simp [intOf]; omega
      · go_wp2
        go_ret
        have ht := ht.out
        rw [List.take_of_length_le (by omega)] at ht
        exact ⟨ret_bool (by rw [nameOk_all ht, hr]), rfl⟩

set_option maxHeartbeats 800000 in
theorem spec_l4Name_any (s : Str) (w : World) (hs : s.length ≤ 9223372036854775807) :
    Calls Tryz.prog 66 #[.string ⟨s.toArray⟩] w fun e w' => e = .returned (.bool (nameOk s)) ∧ w = w' := by
  go_enter Tryz.func66, Tryz.ntmps66
  go_wp2
  go_loop [3] (fun i => ∃ k : Nat, k ≤ s.length ∧ i = .int .i64 k ∧ Hid ((s.take k).all wordB = true)) (fun i => s.length - (intOf i).toNat)
  case atStart => exact ⟨0, Nat.zero_le _, rfl, Lib.hid (by simp)⟩
  case round =>
    obtain ⟨k, hk, rfl, ht⟩ := hrel
    by_cases hkn : k < s.length
    · have hkn' : (k : Int) < (s.length : Int) := by omega
      obtain ⟨c, hc⟩ : ∃ c, s[k]? = some c := ⟨_, List.getElem?_eq_getElem hkn⟩
      have hb := byte_at hc (by rw [size_mk]; exact hkn)
      have Hc := Lib.hid hc
      clear hc
      by_cases h1 : (c.toNat : Int) < 97
      · by_cases h3 : (c.toNat : Int) < 48
        · go_wp2
          go_ret
          exact ⟨ret_bool (nameOk_byte Hc.out (by unfold wordB; simp; omega)).symm, rfl⟩
        · by_cases h4 : (57 : Int) < (c.toNat : Int)
          · go_wp2
            go_ret
            exact ⟨ret_bool (nameOk_byte Hc.out (by unfold wordB; simp; omega)).symm, rfl⟩
          · go_wp2
            go_round
            case rel => exact ⟨k + 1, by omega, by go_num, Lib.hid (all_take_succ Hc.out ht.out (by unfold wordB; simp; omega))⟩
            case measure => simp [intOf]; omega
      · by_cases h2 : (122 : Int) < (c.toNat : Int)
        · have h3 : ¬ (c.toNat : Int) < 48 := by omega
          have h4 : (57 : Int) < (c.toNat : Int) := by omega
          go_wp2
          go_ret
          exact ⟨ret_bool (nameOk_byte Hc.out (by unfold wordB; simp; omega)).symm, rfl⟩
        · go_wp2
          go_round
          case rel => exact ⟨k + 1, by omega, by go_num, Lib.hid (all_take_succ Hc.out ht.out (by unfold wordB; simp; omega))⟩
          case measure => simp [intOf]; omega
    · have ht := ht.out
      rw [List.take_of_length_le (by omega)] at ht
      go_wp2_with (go_at_call 80; refine (spec_l1In_any _ _ _ _).mono ?_; rintro e w' ⟨rfl, rfl⟩)
      go_ret
      exact ⟨ret_bool (nameOk_all ht).symm, rfl⟩
end Go.Proofs.YtmickenajhppoaaGreatDoor

/- Walks: paths: strings.Split at one byte, the program's PathOk, the reference's l1Cut, l4Path. -/
namespace Go.Proofs.YtmickenajhppoaaGreatDoor
open Go.RowKit

theorem splitB_one (c : UInt8) : ∀ (k : Nat) (s : ByteArray), (Lib.splitB ⟨#[c]⟩ 0 k s).map Value.string = (cutN c k s.data.toList).map fun x => Value.string ⟨x.toArray⟩ := by
  intro k s
  have h := Lib.splitB_data ⟨#[c]⟩ 0 k s
  have e : ∀ l : List ByteArray, l.map Value.string = (l.map (·.data.toList)).map fun x => Value.string ⟨x.toArray⟩ := by
    intro l
    rw [List.map_map]
    refine List.map_congr_left fun x _ => ?_
    simp
  rw [e, h]
  rfl
theorem countB_one (s : Str) (c : UInt8) : Lib.countB ⟨s.toArray⟩ ⟨#[c]⟩ = s.count c := by
  show Lib.count s [c] = _
  exact Lib.count_one c s
theorem size_ba (s : Str) : (⟨s.toArray⟩ : ByteArray).size = s.length := size_mk s

set_option maxHeartbeats 1000000 in
theorem strings_Split_any (s : Str) (c : UInt8) (w : World) (hs : s.length ≤ 1073741824) :
    Calls Tryz.prog 72 #[.string ⟨s.toArray⟩, .string ⟨#[c]⟩] w fun e w' => e = .returned (.slice (some ⟨w.heap.size, 0, none⟩) (s.count c + 1) (s.count c + 1)) ∧ Below w.heap.size w w' ∧
      Rep w' w.heap.size w'.heap.size (encText (cutN c (s.count c) s)) (.slice (some ⟨w.heap.size, 0, none⟩) (s.count c + 1) (s.count c + 1)) := by
  have L := Tryz.lays146
  have hle : s.count c ≤ s.length := List.count_le_length
  have hsz : (⟨s.toArray⟩ : ByteArray).size < 4294967281 := by rw [size_ba]; omega
  have hi9 : (Tryz.prog.info? 9).map (fun i => (i.zero, i.size, i.bytes)) = some (some (.string ByteArray.empty), 1, 16) := by kernel_rfl
  have hI : ∀ (x : ByteArray) (cs : Array Value), x.size ≤ (⟨s.toArray⟩ : ByteArray).size → Calls Tryz.prog 89 #[.string x, .string ⟨#[c]⟩] (w.alloc (.cells cs 9)) fun e w' => e = .returned (.int .i64 (Lib.indexB x ⟨#[c]⟩)) ∧ w' = w.alloc (.cells cs 9) := by
    intro x cs _
    refine (Any.strings_Index_one (ρ := Tryz.lays146_ren) { L with } x c _).mono fun e w' ⟨he, hw⟩ => ⟨?_, hw⟩
    rw [he]
    show _ = Ending.returned (Value.int .i64 (Lib.index x.data.toList [c]))
    rw [Lib.index_one]
  have hC : Calls Tryz.prog 88 #[.string ⟨s.toArray⟩, .string ⟨#[c]⟩] w fun e w' => e = .returned (.int .i64 (Lib.countB ⟨s.toArray⟩ ⟨#[c]⟩)) ∧ w' = w := by
    refine (Any.strings_Count_one (ρ := Tryz.lays146_ren) { L with } ⟨s.toArray⟩ c w).mono fun e w' ⟨he, hw⟩ => ⟨?_, hw⟩
    rw [he]
    show _ = Ending.returned (Value.int .i64 ((Lib.count s [c] : Nat) : Int))
    rw [Lib.count_one]
    rfl
  have c0 := Any.strings_genSplit_core (ρ := Tryz.lays146_ren) { L with } hi9 ⟨s.toArray⟩ ⟨#[c]⟩ 0 (-1) (s.count c + 1) w hsz (Nat.le_refl _) (Nat.zero_le _) hI hC (by decide) (by decide)
    (by rw [if_pos (by decide), countB_one, size_ba]; omega)
  have hlen : (Lib.splitB ⟨#[c]⟩ 0 (s.count c) ⟨s.toArray⟩).length = s.count c + 1 := by
    have := Lib.splitB_all ⟨#[c]⟩ (Nat.le_refl _) 0 _ ⟨s.toArray⟩ rfl
    rw [countB_one] at this
    exact this
  rw [Nat.add_sub_cancel, hlen] at c0
  have e2 : Lib.cellsOf (Lib.splitB ⟨#[c]⟩ 0 (s.count c) ⟨s.toArray⟩) (s.count c + 1) = ((cutN c (s.count c) s).map fun x => Value.string ⟨x.toArray⟩).toArray := by
    rw [← hlen, Lib.cellsOf_full, splitB_one]
  rw [e2] at c0
  have c1 : Calls Tryz.prog 81 #[.string ⟨s.toArray⟩, .string ⟨#[c]⟩, .int .i64 0, .int .i64 (-1)] w fun e w' =>
      e = .returned (.slice (some ⟨w.heap.size, 0, none⟩) (s.count c + 1) (s.count c + 1)) ∧ w' = w.alloc (.cells ((cutN c (s.count c) s).map fun x => Value.string ⟨x.toArray⟩).toArray 9) := c0
  have hcl := cutN_len c (s.count c) s (Nat.le_refl _)
  have hL := lit_text w 9 (cutN c (s.count c) s) (by unfold maxLen; omega)
  rw [hcl] at hL
  have hB : Below w.heap.size w (w.alloc (.cells ((cutN c (s.count c) s).map fun x => Value.string ⟨x.toArray⟩).toArray 9)) := (Below.refl _ _).alloc (Nat.le_refl _) _
  clear c0 e2 hlen hC hI hcl L
  obtain ⟨w1, hw1⟩ : ∃ w1, w1 = w.alloc (.cells ((cutN c (s.count c) s).map fun x => Value.string ⟨x.toArray⟩).toArray 9) := ⟨_, rfl⟩
  rw [← hw1] at c1 hL hB
  have hsz1 : w1.heap.size = w.heap.size + 1 := by rw [hw1]; simp
  clear hw1
  rw [← hsz1] at hL
  clear hsz1
  have hm : w1.heap.size = w1.heap.size := rfl
  go_enter Tryz.func72, Tryz.ntmps72
  go_wp2_with (go_at_call 81; refine c1.mono ?_; rintro e w' ⟨rfl, rfl⟩)
  go_ret
  exact ⟨rfl, hB, hL⟩

set_option maxHeartbeats 400000 in
theorem impl_PathOk_any (s : Str) (w : World) (hs : s.length ≤ 1073741824) :
    Calls Tryz.prog 52 #[.string ⟨s.toArray⟩] w fun e w' => e = .returned (.bool (pathOk s)) ∧ Below w.heap.size w w' := by
  have hcl := cutN_len 47 (s.count 47) s (Nat.le_refl _)
  have hle : s.count 47 ≤ s.length := List.count_le_length
  have hsm := cutN_small 47 (s.count 47) s
  go_enter Tryz.func52, Tryz.ntmps52
  go_wp2_with fail
  refine Calls.mono (strings_Split_any s 47 w hs) ?_
  rintro e w1 ⟨rfl, hb, hr⟩
  obtain ⟨N, hN⟩ : ∃ N, N = s.count 47 := ⟨_, rfl⟩
  rw [← hN] at hr hcl hle hsm ⊢
  by_cases h3 : N + 1 ≤ 3
  · have hf := pathOk_full s
    rw [← hN, hcl] at hf
    have h3' : ¬ (3 : Int) < (N : Int) + 1 := by omega
    have h3'' : ¬ (3 : Int) < ((N + 1 : Nat) : Int) := by omega
    have Hf := Lib.hid hf
    have HN := Lib.hid hN
    have Hcl := Lib.hid hcl
    clear hf hN hcl
    go_wp2
    go_loop [13] (fun i => ∃ k : Nat, k ≤ N + 1 ∧ i = .int .i64 k ∧ Hid (((cutN 47 N s).take k).all nameOk = true)) (fun i => N + 1 - (intOf i).toNat)
    case atStart => exact ⟨0, Nat.zero_le _, rfl, Lib.hid (by simp)⟩
    case round =>
      obtain ⟨k, hk, rfl, ht⟩ := hrel
      by_cases hkn : k < N + 1
      · have hkn' : (k : Int) < (N : Int) + 1 := by omega
        have hkn'' : (k : Int) < ((N + 1 : Nat) : Int) := by omega
        obtain ⟨b1, o1, x, hA, _, _, hx, hcell⟩ := Text.at hr hkn
        simp only [Option.some.injEq, Addr.mk.injEq, and_true] at hA
        obtain ⟨rfl, rfl⟩ := hA
        simp only [Nat.zero_add] at hcell
        have hxs : x.length ≤ 9223372036854775807 := by have := hsm x (List.mem_of_getElem? hx); omega
        have Hx := Lib.hid hx
        clear hx
        cases hn : nameOk x
        · go_wp2_with (go_at_call 73; refine (impl_nameOk_any _ _ hxs).mono ?_; rintro e w' ⟨rfl, rfl⟩)
          go_ret
          exact ⟨ret_bool (by rw [Hf.out, all_false Hx.out hn]; simp), hb⟩
        · go_wp2_with (go_at_call 73; refine (impl_nameOk_any _ _ hxs).mono ?_; rintro e w' ⟨rfl, rfl⟩)
          go_round
          case rel => exact ⟨k + 1, by omega, by go_num, Lib.hid (all_take_succ Hx.out ht.out hn)⟩
          case measure => simp [intOf]; omega
      · go_wp2
        go_ret
        have ht := ht.out
        rw [List.take_of_length_le (by have := Hcl.out; omega)] at ht
        exact ⟨ret_bool (by rw [Hf.out, ht]; simp; omega), hb⟩
  · have hf := pathOk_full s
    rw [← hN, hcl] at hf
    have h3' : (3 : Int) < (N : Int) + 1 := by omega
    have h3'' : (3 : Int) < ((N + 1 : Nat) : Int) := by omega
    have Hf := Lib.hid hf
    clear hf hN hcl
    go_wp2
    go_ret
    exact ⟨ret_bool (by rw [Hf.out]; simp; omega), hb⟩
end Go.Proofs.YtmickenajhppoaaGreatDoor
