/- Small words for the walks of PatchGet. -/
import Derived.Test.YteofafgleojmhaaDoorGetPlain
import Derived.Test.YteofafgleojmhaaDoorStr
import Derived.Test.YteofafgleojmhaaDoorHunkOwn
namespace Go.Proofs.YteofafgleojmhaaDoor
open Go.RowKit

theorem Tryd.infoHunk : (Tryd.prog.info? 32).map (fun i => (i.zero, i.size, i.bytes)) = some (some (.agg #[.int .i64 0, .slice none 0 0, .slice none 0 0]), 3, 56) := by kernel_rfl
def fromLines (s : Str) : Option (List Str) → Option (List PHunk)
  | none => none
  | some ls => endG s (parseG numI [] ls)
theorem getI_lines (s : Str) : patchGetI s = fromLines s (linesI s) := by
  unfold patchGetI
  cases linesI s <;> rfl
theorem linesI_small (s : Str) : ∀ ls, linesI s = some ls → ls.length ≤ s.length ∧ ∀ x ∈ ls, x.length ≤ s.length := by
  intro ls h
  unfold linesI at h
  split at h
  · cases h; exact ⟨Nat.zero_le _, fun x hx => by cases hx⟩
  · split at h
    · cases h
      have h1 := cutN_len 10 (s.count 10) s (Nat.le_refl _)
      have h2 : s.count 10 ≤ s.length := List.count_le_length
      refine ⟨by rw [List.length_dropLast]; omega, fun x hx => cutN_small 10 (s.count 10) s x (List.mem_of_mem_take (by rw [List.dropLast_eq_take] at hx; exact hx))⟩
    · cases h
theorem linesS_small (s : Str) : (linesS s).length ≤ 169 ∧ ∀ x ∈ linesS s, x.length ≤ s.length := by
  unfold linesS
  have h1 := cutN_len_le 10 169 s
  exact ⟨by rw [List.length_dropLast]; omega, fun x hx => cutN_small 10 169 s x (List.mem_of_mem_take (by rw [List.dropLast_eq_take] at hx; exact hx))⟩
theorem byte_ne {b c : UInt8} (h : b ≠ c) : ((b.toNat : Int) == (c.toNat : Int)) = false := by
  rw [beq_eq_false_iff_ne]
  intro e
  exact h (UInt8.toNat_inj.1 (by omega))
theorem byte_nat {b c : UInt8} (h : b ≠ c) : ¬ ((b.toNat : Int) = (c.toNat : Int)) := fun e => h (UInt8.toNat_inj.1 (by omega))
theorem cut_one (x : Str) (h : 0 < x.length) :
    (∀ W, (Instr.slice 9 (.string ⟨x.toArray⟩) (some (.int .i64 1)) none none).run Tryd.prog W = .ok (.string ⟨(x.drop 1).toArray⟩) W) ∧
    (∀ W, (Instr.sliceAt 9 (.string ⟨x.toArray⟩) (some (.int .i64 1)) none none).run Tryd.prog W = .ok (.string ⟨(x.drop 1).toArray⟩) W) := Tryd.cutStrFrom x 1 h
theorem one3 (a : Int) : ∀ u ∈ [Value.int .i64 a, .slice none 0 0, .slice none 0 0], u.oneCell' = true := by
  intro u hu
  simp at hu
  rcases hu with rfl | rfl <;> rfl
theorem one1 (l : Str) : ∀ u ∈ [Value.string ⟨l.toArray⟩], u.oneCell' = true := by
  intro u hu
  simp at hu
  subst hu
  rfl
theorem fresh_hunk0 (w : World) (a : Int) : FreshL w w.heap.size w.heap.size (cHunks ⟨a, [], []⟩) [.int .i64 a, .slice none 0 0, .slice none 0 0] := by
  have e : Own w (encText []) (.slice none 0 0) [] := ⟨0, [], [], World.ownsRow_nil w 0 _ _, rfl, rfl, rfl⟩
  exact ⟨[], ⟨_, _, [], [], rfl, rfl, ⟨rfl, rfl⟩, _, _, [], [], rfl, rfl, e, _, _, [], [], rfl, rfl, e, rfl, rfl⟩, .nil, fun k hk => by cases hk⟩
end Go.Proofs.YteofafgleojmhaaDoor
