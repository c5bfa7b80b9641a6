/- Several of my texts in one: Range, Ints, Str. -/
import Derived.Test.YtianpeokdojkbaaDoorText
/- Walks: is a number in a range: the program's within, the reference's l1In. -/
namespace Go.Proofs.YtianpeokdojkbaaDoor
open Go.RowKit
def inRange (n lo hi : Int) : Bool := decide (lo ≤ n) && decide (n ≤ hi)

set_option maxHeartbeats 400000 in
theorem impl_within_any (n a b : Int) (w : World) :
    Calls Tryd.prog 83 #[.int .i64 n, .int .i64 a, .int .i64 b] w fun e w' => e = .returned (.bool (inRange n a b)) ∧ w = w' := by
  by_cases h1 : a ≤ n
  · by_cases h2 : n ≤ b
    · go_enter Tryd.func83, Tryd.ntmps83
      go_wp2
      go_ret
      exact ⟨ret_bool (by simp [inRange, h1, h2]), rfl⟩
    · go_enter Tryd.func83, Tryd.ntmps83
      go_wp2
      go_ret
      exact ⟨ret_bool (by simp [inRange, h1, h2]), rfl⟩
  · go_enter Tryd.func83, Tryd.ntmps83
    go_wp2
    go_ret
    exact ⟨ret_bool (by simp [inRange]; omega), rfl⟩

set_option maxHeartbeats 400000 in
theorem spec_l1In_any (n a b : Int) (w : World) :
    Calls Tryd.prog 80 #[.int .i64 n, .int .i64 a, .int .i64 b] w fun e w' => e = .returned (.bool (inRange n a b)) ∧ w = w' := by
  by_cases h1 : a ≤ n
  · by_cases h2 : n ≤ b
    · go_enter Tryd.func80, Tryd.ntmps80
      go_wp2
      go_ret
      exact ⟨ret_bool (by simp [inRange, h1, h2]), rfl⟩
    · go_enter Tryd.func80, Tryd.ntmps80
      go_wp2
      go_ret
      exact ⟨ret_bool (by simp [inRange, h1, h2]), rfl⟩
  · go_enter Tryd.func80, Tryd.ntmps80
    go_wp2
    go_ret
    exact ⟨ret_bool (by simp [inRange]; omega), rfl⟩

end Go.Proofs.YtianpeokdojkbaaDoor

/- Walks: sz, to, eq of []int. -/
namespace Go.Proofs.YtianpeokdojkbaaDoor
open Go.RowKit



end Go.Proofs.YtianpeokdojkbaaDoor

/- A string cut: its run, the result said as a list of bytes. -/
namespace Go.Proofs.YtianpeokdojkbaaDoor
open Go.RowKit
theorem Tryd.cutStr (s : Str) (i j : Nat) (hij : i ≤ j) (hj : j ≤ s.length) :
    (∀ W, (Instr.slice 9 (.string ⟨s.toArray⟩) (some (.int .i64 i)) (some (.int .i64 j)) none).run Tryd.prog W = .ok (.string ⟨((s.drop i).take (j - i)).toArray⟩) W) ∧
    (∀ W, (Instr.sliceAt 9 (.string ⟨s.toArray⟩) (some (.int .i64 i)) (some (.int .i64 j)) none).run Tryd.prog W = .ok (.string ⟨((s.drop i).take (j - i)).toArray⟩) W) := by
  have ht : Tryd.prog.underlying 9 = some .string := by kernel_rfl
  have h : ∀ W, (Instr.slice 9 (.string ⟨s.toArray⟩) (some (.int .i64 i)) (some (.int .i64 j)) none).run Tryd.prog W = .ok (.string ⟨((s.drop i).take (j - i)).toArray⟩) W := fun W => by
    rw [run_slice_string _ _ _ _ _ _ _ ht (by omega) (by omega) (by rw [size_mk]; omega), ByteArray.extract_mk]; rfl
  exact ⟨h, fun W => by rw [run_sliceAt_string (h := ht)]; exact h W⟩
theorem Tryd.cutStrTo (s : Str) (j : Nat) (hj : j ≤ s.length) :
    (∀ W, (Instr.slice 9 (.string ⟨s.toArray⟩) none (some (.int .i64 j)) none).run Tryd.prog W = .ok (.string ⟨(s.take j).toArray⟩) W) ∧
    (∀ W, (Instr.sliceAt 9 (.string ⟨s.toArray⟩) none (some (.int .i64 j)) none).run Tryd.prog W = .ok (.string ⟨(s.take j).toArray⟩) W) := by
  have ht : Tryd.prog.underlying 9 = some .string := by kernel_rfl
  have h : ∀ W, (Instr.slice 9 (.string ⟨s.toArray⟩) none (some (.int .i64 j)) none).run Tryd.prog W = .ok (.string ⟨(s.take j).toArray⟩) W := fun W => by
    rw [run_slice_string_h (ht := ht) (h0 := by omega) (h2 := by rw [size_mk]; omega), ByteArray.extract_mk]; simp
  exact ⟨h, fun W => by rw [run_sliceAt_string (h := ht)]; exact h W⟩
theorem Tryd.cutStrFrom (s : Str) (i : Nat) (hi : i ≤ s.length) :
    (∀ W, (Instr.slice 9 (.string ⟨s.toArray⟩) (some (.int .i64 i)) none none).run Tryd.prog W = .ok (.string ⟨(s.drop i).toArray⟩) W) ∧
    (∀ W, (Instr.sliceAt 9 (.string ⟨s.toArray⟩) (some (.int .i64 i)) none none).run Tryd.prog W = .ok (.string ⟨(s.drop i).toArray⟩) W) := by
  have ht : Tryd.prog.underlying 9 = some .string := by kernel_rfl
  have h : ∀ W, (Instr.slice 9 (.string ⟨s.toArray⟩) (some (.int .i64 i)) none none).run Tryd.prog W = .ok (.string ⟨(s.drop i).toArray⟩) W := fun W => by
    rw [run_slice_string_l (ht := ht) (h0 := by omega) (h1 := by rw [size_mk]; omega), ByteArray.extract_mk, size_mk]
    rw [List.take_of_length_le (by rw [List.length_drop]; simp)]; rfl
  exact ⟨h, fun W => by rw [run_sliceAt_string (h := ht)]; exact h W⟩
theorem bytes_app (a b : Str) : (⟨a.toArray⟩ : ByteArray) ++ ⟨b.toArray⟩ = ⟨(a ++ b).toArray⟩ := by
  apply ByteArray.ext
  simp [ByteArray.data_append]
end Go.Proofs.YtianpeokdojkbaaDoor
