/- Walk: strings.Split at one byte. -/
import Derived.Test.YteofafgleojmhaaDoorPathPlain
import Derived.Test.YteofafgleojmhaaDoorRange
import Derived.Test.YteofafgleojmhaaDoorLit
import Derived.Test.YteofafgleojmhaaDoorShelf
import Derived.Lib.IndexBytes
namespace Go.Proofs.YteofafgleojmhaaDoor
open Go.RowKit

theorem splitB_one (c : UInt8) : ∀ (k : Nat) (s : ByteArray), (Lib.splitB ⟨#[c]⟩ 0 k s).map Value.string = (cutN c k s.data.toList).map fun x => Value.string ⟨x.toArray⟩ := by
  intro k s
  have h := Lib.splitB_data ⟨#[c]⟩ 0 k s
  have e : ∀ l : List ByteArray, l.map Value.string = (l.map (·.data.toList)).map fun x => Value.string ⟨x.toArray⟩ := by
    intro l
    rw [List.map_map]
    refine List.map_congr_left fun x _ => ?_
    simp
  rw [e, h]
  rfl
theorem countB_one (s : Str) (c : UInt8) : Lib.countB ⟨s.toArray⟩ ⟨#[c]⟩ = s.count c := by
  show Lib.count s [c] = _
  exact Lib.count_one c s
theorem size_ba (s : Str) : (⟨s.toArray⟩ : ByteArray).size = s.length := size_mk s

set_option maxHeartbeats 1000000 in
theorem strings_Split_any (s : Str) (c : UInt8) (w : World) (hs : s.length ≤ 1073741824) :
    Calls Tryd.prog 23 #[.string ⟨s.toArray⟩, .string ⟨#[c]⟩] w fun e w' => e = .returned (.slice (some ⟨w.heap.size, 0, none⟩) (s.count c + 1) (s.count c + 1)) ∧ Below w.heap.size w w' ∧
      Rep w' w.heap.size w'.heap.size (encText (cutN c (s.count c) s)) (.slice (some ⟨w.heap.size, 0, none⟩) (s.count c + 1) (s.count c + 1)) := by
  have L := Tryd.lays146
  have hle : s.count c ≤ s.length := List.count_le_length
  have hsz : (⟨s.toArray⟩ : ByteArray).size < 4294967281 := by rw [size_ba]; omega
  have hi9 : (Tryd.prog.info? 9).map (fun i => (i.zero, i.size, i.bytes)) = some (some (.string ByteArray.empty), 1, 16) := by kernel_rfl
  have hI : ∀ (x : ByteArray) (cs : Array Value), x.size ≤ (⟨s.toArray⟩ : ByteArray).size → Calls Tryd.prog 42 #[.string x, .string ⟨#[c]⟩] (w.alloc (.cells cs 9)) fun e w' => e = .returned (.int .i64 (Lib.indexB x ⟨#[c]⟩)) ∧ w' = w.alloc (.cells cs 9) := by
    intro x cs _
    refine (Any.strings_Index_one (ρ := Tryd.lays146_ren) { L with } x c _).mono fun e w' ⟨he, hw⟩ => ⟨?_, hw⟩
    rw [he]
    show _ = Ending.returned (Value.int .i64 (Lib.index x.data.toList [c]))
    rw [Lib.index_one]
  have hC : Calls Tryd.prog 41 #[.string ⟨s.toArray⟩, .string ⟨#[c]⟩] w fun e w' => e = .returned (.int .i64 (Lib.countB ⟨s.toArray⟩ ⟨#[c]⟩)) ∧ w' = w := by
    refine (Any.strings_Count_one (ρ := Tryd.lays146_ren) { L with } ⟨s.toArray⟩ c w).mono fun e w' ⟨he, hw⟩ => ⟨?_, hw⟩
    rw [he]
    show _ = Ending.returned (Value.int .i64 ((Lib.count s [c] : Nat) : Int))
    rw [Lib.count_one]
    rfl
  have c0 := Any.strings_genSplit_core (ρ := Tryd.lays146_ren) { L with } hi9 ⟨s.toArray⟩ ⟨#[c]⟩ 0 (-1) (s.count c + 1) w hsz (Nat.le_refl _) (Nat.zero_le _) hI hC (by decide) (by decide)
    (by rw [if_pos (by decide), countB_one, size_ba]; omega)
  have hlen : (Lib.splitB ⟨#[c]⟩ 0 (s.count c) ⟨s.toArray⟩).length = s.count c + 1 := by
    have := Lib.splitB_all ⟨#[c]⟩ (Nat.le_refl _) 0 _ ⟨s.toArray⟩ rfl
    rw [countB_one] at this
    exact this
  rw [Nat.add_sub_cancel, hlen] at c0
  have e2 : Lib.cellsOf (Lib.splitB ⟨#[c]⟩ 0 (s.count c) ⟨s.toArray⟩) (s.count c + 1) = ((cutN c (s.count c) s).map fun x => Value.string ⟨x.toArray⟩).toArray := by
    rw [← hlen, Lib.cellsOf_full, splitB_one]
  rw [e2] at c0
  have c1 : Calls Tryd.prog 34 #[.string ⟨s.toArray⟩, .string ⟨#[c]⟩, .int .i64 0, .int .i64 (-1)] w fun e w' =>
      e = .returned (.slice (some ⟨w.heap.size, 0, none⟩) (s.count c + 1) (s.count c + 1)) ∧ w' = w.alloc (.cells ((cutN c (s.count c) s).map fun x => Value.string ⟨x.toArray⟩).toArray 9) := c0
  have hcl := cutN_len c (s.count c) s (Nat.le_refl _)
  have hL := lit_text w 9 (cutN c (s.count c) s) (by unfold maxLen; omega)
  rw [hcl] at hL
  have hB : Below w.heap.size w (w.alloc (.cells ((cutN c (s.count c) s).map fun x => Value.string ⟨x.toArray⟩).toArray 9)) := (Below.refl _ _).alloc (Nat.le_refl _) _
  clear c0 e2 hlen hC hI hcl L
  obtain ⟨w1, hw1⟩ : ∃ w1, w1 = w.alloc (.cells ((cutN c (s.count c) s).map fun x => Value.string ⟨x.toArray⟩).toArray 9) := ⟨_, rfl⟩
  rw [← hw1] at c1 hL hB
  have hsz1 : w1.heap.size = w.heap.size + 1 := by rw [hw1]; simp
  clear hw1
  rw [← hsz1] at hL
  clear hsz1
  have hm : w1.heap.size = w1.heap.size := rfl
  go_enter Tryd.func23, Tryd.ntmps23
  go_wp2_with (go_at_call 34; refine c1.mono ?_; rintro e w' ⟨rfl, rfl⟩)
  go_ret
  exact ⟨rfl, hB, hL⟩

end Go.Proofs.YteofafgleojmhaaDoor
