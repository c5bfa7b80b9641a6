/- Walks: the copy of a tree, the program's. -/
import Derived.Test.YtgcioajaglljfaaDoorTreePlain
import Derived.Test.YtgcioajaglljfaaDoorCopy
import Derived.Deep.RegionHeld3
namespace Go.Proofs.YtgcioajaglljfaaDoor
open Go.RowKit

def smallTree (xs : List PFile) : Prop := xs.length ≤ 1000000 ∧ ∀ x ∈ xs, x.text.length ≤ 1048576
theorem smallTree_ok {xs : List PFile} (h : treeOk xs = true) : smallTree xs := by
  obtain ⟨h1, h2⟩ := treeOk_iff.1 h
  refine ⟨by omega, fun x hx => ?_⟩
  obtain ⟨k, hk⟩ := List.getElem?_of_mem hx
  have hkl := (List.getElem?_eq_some_iff.1 hk).1
  have := textOk_len (treeAt_parts hk (h2 k hkl)).1
  omega
theorem smallTree_sz {xs : List PFile} (h : szFiles xs ≤ 1048576) (h8 : xs.length ≤ 1000000) : smallTree xs := by
  refine ⟨h8, fun x hx => ?_⟩
  have := szFile_le hx
  unfold szFile total at this
  omega

end Go.Proofs.YtgcioajaglljfaaDoor
