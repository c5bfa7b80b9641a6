/- A string cut: its run, the result said as a list of bytes. -/
import Derived.Test.YteofafgleojmhaaDoorText
namespace Go.Proofs.YteofafgleojmhaaDoor
open Go.RowKit
theorem Tryd.cutStr (s : Str) (i j : Nat) (hij : i ≤ j) (hj : j ≤ s.length) :
    (∀ W, (Instr.slice 9 (.string ⟨s.toArray⟩) (some (.int .i64 i)) (some (.int .i64 j)) none).run Tryd.prog W = .ok (.string ⟨((s.drop i).take (j - i)).toArray⟩) W) ∧
    (∀ W, (Instr.sliceAt 9 (.string ⟨s.toArray⟩) (some (.int .i64 i)) (some (.int .i64 j)) none).run Tryd.prog W = .ok (.string ⟨((s.drop i).take (j - i)).toArray⟩) W) := by
  have ht : Tryd.prog.underlying 9 = some .string := by kernel_rfl
  have h : ∀ W, (Instr.slice 9 (.string ⟨s.toArray⟩) (some (.int .i64 i)) (some (.int .i64 j)) none).run Tryd.prog W = .ok (.string ⟨((s.drop i).take (j - i)).toArray⟩) W := fun W => by
    rw [run_slice_string _ _ _ _ _ _ _ ht (by omega) (by omega) (by rw [size_mk]; omega), ByteArray.extract_mk]; rfl
  exact ⟨h, fun W => by rw [run_sliceAt_string (h := ht)]; exact h W⟩
theorem Tryd.cutStrTo (s : Str) (j : Nat) (hj : j ≤ s.length) :
    (∀ W, (Instr.slice 9 (.string ⟨s.toArray⟩) none (some (.int .i64 j)) none).run Tryd.prog W = .ok (.string ⟨(s.take j).toArray⟩) W) ∧
    (∀ W, (Instr.sliceAt 9 (.string ⟨s.toArray⟩) none (some (.int .i64 j)) none).run Tryd.prog W = .ok (.string ⟨(s.take j).toArray⟩) W) := by
  have ht : Tryd.prog.underlying 9 = some .string := by kernel_rfl
  have h : ∀ W, (Instr.slice 9 (.string ⟨s.toArray⟩) none (some (.int .i64 j)) none).run Tryd.prog W = .ok (.string ⟨(s.take j).toArray⟩) W := fun W => by
    rw [run_slice_string_h (ht := ht) (h0 := by omega) (h2 := by rw [size_mk]; omega), ByteArray.extract_mk]; simp
  exact ⟨h, fun W => by rw [run_sliceAt_string (h := ht)]; exact h W⟩
theorem Tryd.cutStrFrom (s : Str) (i : Nat) (hi : i ≤ s.length) :
    (∀ W, (Instr.slice 9 (.string ⟨s.toArray⟩) (some (.int .i64 i)) none none).run Tryd.prog W = .ok (.string ⟨(s.drop i).toArray⟩) W) ∧
    (∀ W, (Instr.sliceAt 9 (.string ⟨s.toArray⟩) (some (.int .i64 i)) none none).run Tryd.prog W = .ok (.string ⟨(s.drop i).toArray⟩) W) := by
  have ht : Tryd.prog.underlying 9 = some .string := by kernel_rfl
  have h : ∀ W, (Instr.slice 9 (.string ⟨s.toArray⟩) (some (.int .i64 i)) none none).run Tryd.prog W = .ok (.string ⟨(s.drop i).toArray⟩) W := fun W => by
    rw [run_slice_string_l (ht := ht) (h0 := by omega) (h1 := by rw [size_mk]; omega), ByteArray.extract_mk, size_mk]
    rw [List.take_of_length_le (by rw [List.length_drop]; simp)]; rfl
  exact ⟨h, fun W => by rw [run_sliceAt_string (h := ht)]; exact h W⟩
theorem bytes_app (a b : Str) : (⟨a.toArray⟩ : ByteArray) ++ ⟨b.toArray⟩ = ⟨(a ++ b).toArray⟩ := by
  apply ByteArray.ext
  simp [ByteArray.data_append]
end Go.Proofs.YteofafgleojmhaaDoor
