/- The package variables that the reading of a number reads: the table of powers, the two errors. -/
import Derived.Test.YteofafgleojmhaaDoorShelf
import Derived.Test.YteofafgleojmhaaDoorMem
import Derived.Test.YteofafgleojmhaaDoorRows
import Derived.Lib.LaidTab
import Derived.Lib.ItoaNum
import Derived.Stop.LaidErr
import Derived.MakeChecks
namespace Go.Proofs.YteofafgleojmhaaDoor
open Go.RowKit

theorem Tryd.gPow : Tryd.prog.globalNamed "internal/strconv.uint64pow10" = some 3 := by kernel_rfl
theorem Tryd.gSyn : Tryd.prog.globalNamed "strconv.ErrSyntax" = some 0 := by kernel_rfl
theorem Tryd.gRng : Tryd.prog.globalNamed "strconv.ErrRange" = some 1 := by kernel_rfl
structure Globs (w : World) : Prop where
  tab : Lib.TabIs Tryd.prog w "internal/strconv.uint64pow10" .u64 Lib.pow10Tab
  syn : ∃ tp p, w.var? Tryd.prog "strconv.ErrSyntax" = some #[.iface tp p]
  rng : ∃ tp p, w.var? Tryd.prog "strconv.ErrRange" = some #[.iface tp p]
theorem var_keep {w w' : World} {n : String} {g : Nat} {cs : Array Value} (hg : Tryd.prog.globalNamed n = some g) (h : w.var? Tryd.prog n = some cs) (hb : Below w.heap.size w w') : w'.var? Tryd.prog n = some cs := by
  unfold World.var? at h ⊢
  rw [hg] at h ⊢
  simp only [Option.bind_some] at h ⊢
  have hlt : g < w.heap.size := by
    rcases Nat.lt_or_ge g w.heap.size with h' | h'
    · exact h'
    · rw [Array.getElem?_eq_none h'] at h; cases h
  rw [hb.block g hlt]
  exact h
theorem Globs.keep {w w' : World} (h : Globs w) (hb : Below w.heap.size w w') : Globs w' := by
  obtain ⟨h1, ⟨t1, p1, h2⟩, ⟨t2, p2, h3⟩⟩ := h
  exact ⟨var_keep Tryd.gPow h1 hb, ⟨t1, p1, var_keep Tryd.gSyn h2 hb⟩, ⟨t2, p2, var_keep Tryd.gRng h3 hb⟩⟩

theorem Tryd.tPow : (Tryd.prog.globals[3]?).map (·.type) = some 92 := by kernel_rfl
theorem Tryd.tSyn : (Tryd.prog.globals[0]?).map (·.type) = some 46 := by kernel_rfl
theorem Tryd.tRng : (Tryd.prog.globals[1]?).map (·.type) = some 46 := by kernel_rfl
theorem Tryd.star : "*" ++ "errors.errorString" = "*errors.errorString" := by decide
theorem Tryd.rowErr (u : TypeId) (h : Tryd.prog.typeName? 3 u = some "*errors.errorString") : u = 88 :=
  typeName_ptr_named (nm := "errors.errorString") (by rw [Tryd.star]; kernel_rfl) (by kernel_rfl) (by decide) u (by rw [Tryd.star]; exact h)
theorem globs_of {w : World} (h : laidMetH Tryd.prog Rows.fnExactPatchGetRow.laid w) : Globs w := by
  rw [MakeChecks.laidMetH_plain _ _ _ (by kernel_rfl)] at h
  have h1 : laidMet Tryd.prog (("internal/strconv.uint64pow10", Lib.tabData .u64 Lib.pow10Tab) :: Rows.fnExactPatchGetRow.laid.drop 3) w := h.tail.tail
  have h2 := h.tail.tail.tail.tail
  refine ⟨Lib.tabIs_of_head Tryd.gPow Tryd.tPow Tryd.underlying92 Tryd.underlying73 (by kernel_rfl) (by kernel_rfl) h1, ?_, ?_⟩
  · obtain ⟨a, s, hv, _⟩ := laid_sentinel h2.tail Tryd.gSyn Tryd.tSyn Tryd.underlying46 Tryd.rowErr Tryd.underlying88 Tryd.underlying90 rfl rfl Tryd.underlying9 (by kernel_rfl) (by kernel_rfl)
    exact ⟨_, _, hv⟩
  · obtain ⟨a, s, hv, _⟩ := laid_sentinel h2 Tryd.gRng Tryd.tRng Tryd.underlying46 Tryd.rowErr Tryd.underlying88 Tryd.underlying90 rfl rfl Tryd.underlying9 (by kernel_rfl) (by kernel_rfl)
    exact ⟨_, _, hv⟩
end Go.Proofs.YteofafgleojmhaaDoor
