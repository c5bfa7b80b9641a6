/- How much a patch that was read holds at most. -/
import Derived.Test.YteofafgleojmhaaDoorGetPlain
import Derived.Test.YteofafgleojmhaaDoorKHunk
namespace Go.Proofs.YteofafgleojmhaaDoor
open Go.RowKit
theorem cntHunks_ok {d : List PHunk} (h : ∀ x ∈ d, hunkOk x = true) : cntHunks d ≤ d.length * 21 := by
  induction d with
  | nil => simp [cntHunks]
  | cons x d ih =>
    have h1 := ih fun y hy => h y (by simp [hy])
    obtain ⟨_, _, _, _, h2, h3, _⟩ := hunkOk_facts (h x (by simp))
    simp only [cntHunks, List.map_cons, List.sum_cons, List.length_cons, cntHunk] at *
    omega
theorem bnd_PatchGet (s : Str) : cntHunks ((patchGet s).getD []) ≤ 168 := by
  cases h : patchGet s with
  | none => simp [cntHunks]
  | some d =>
    have h1 := (getS_iff.1 h).1
    have h2 := cntHunks_ok (hunkOk_of_patchOk h1)
    have h3 := patchOk_len h1
    simp only [Option.getD_some]
    omega
end Go.Proofs.YteofafgleojmhaaDoor
