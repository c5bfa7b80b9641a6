/-
  No cell of these rows narrows 'for every input' (looked for: loops, veiled, ifaces, maps, wideKeys, modest, calm, conditions, laid).
  DERIVED. THE GIVEN ROWS OF THIS SEAT. 6 by the template 'for every input the law returns true; each argument reads behind the call as it read before'; 0 by the template 'total and deterministic' (their statements: YtfhkpeoodcffmaaTotals.lean).
  GIVEN WITH THE SEED: the statements are not yours to turn. If you find one false, say at which input.
  Laid BY PROGRAM, IN A SANDBOX (cutbox-rows.mjs): the forced cells as the released guide's own fill.sh prints them over the translation 5010d66c1589af31… (all of the seat's roots in one cut). By AI agents, Wed Nov 11 2026. No macro, syntax, notation, axiom, sorry.
-/
import Derived.Test.YtfhkpeoodcffmaaChecked
import GoSem.Claim
import GoSem.ClaimJoined
import GoSem.ClaimMapViews
import Derived.JoinedTies
import Derived.KernelRfl
namespace Go.Proofs.Ytfhkpeoodcffmaa
/- THE CELL 'sum', in the pinned program and in every row, IS THE sha256 OF THE DUMP (.gsa) THAT YtfhkpeoodcffmaaProg.lean LOADS. Nothing in Lean hashes anything: it is a label: what it is worth is what the hold of that sum in a sandbox is worth. -/
noncomputable def Try.pinned : Pinned := { name := "ytfhkpeoodcffmaa", sum := "5010d66c1589af3144f5bfd22c69aaef5eb330f3d310804fca3ae6bd4e138a1c", checked := Try.checked }
namespace Rows
def none {H : Type} : Left H := { results := [], args := [] }

/-- 'laws.FnExactConstants': WHATEVER THE INPUT: true; the input reads as it did. -/
def fnExactConstantsSpec : ChangeSpec := { name := "fnExactConstants", fn := fun _ => fun
  | [] => { results := [.lit (.bool true)], args := [] }
  | _ => none }
def fnExactConstantsRow : OpenClaim := { program := "ytfhkpeoodcffmaa", sum := "5010d66c1589af3144f5bfd22c69aaef5eb330f3d310804fca3ae6bd4e138a1c", func := "loop.example/versioncontrol/laws.FnExactConstants", spec := "fnExactConstants", apart := false }
def FnExactConstantsSaid : Prop := fnExactConstantsRow.holds Try.pinned (OpenSpec.ofChange fnExactConstantsSpec)

/-- ITS FALSE NEIGHBOUR: 'it returns false'. Refute it at one input. -/
def fnExactConstantsWrong : ChangeSpec := { name := "fnExactConstants", fn := fun _ => fun
  | [] => { results := [.lit (.bool false)], args := [] }
  | _ => none }
def FnExactConstantsWrongFalsely : Prop := fnExactConstantsRow.holds Try.pinned (OpenSpec.ofChange fnExactConstantsWrong)

/-- 'laws.FnExactTextOk': WHATEVER THE INPUT: true; the input reads as it did. -/
def fnExactTextOkSpec : ChangeSpec := { name := "fnExactTextOk", fn := fun _ => fun
  | [d] => { results := [.lit (.bool true)], args := [d] }
  | _ => none }
def fnExactTextOkRow : OpenClaim := { program := "ytfhkpeoodcffmaa", sum := "5010d66c1589af3144f5bfd22c69aaef5eb330f3d310804fca3ae6bd4e138a1c", func := "loop.example/versioncontrol/laws.FnExactTextOk", spec := "fnExactTextOk", apart := false }
def FnExactTextOkSaid : Prop := fnExactTextOkRow.holds Try.pinned (OpenSpec.ofChange fnExactTextOkSpec)

/-- ITS FALSE NEIGHBOUR: 'it returns false'. Refute it at one input. -/
def fnExactTextOkWrong : ChangeSpec := { name := "fnExactTextOk", fn := fun _ => fun
  | [d] => { results := [.lit (.bool false)], args := [d] }
  | _ => none }
def FnExactTextOkWrongFalsely : Prop := fnExactTextOkRow.holds Try.pinned (OpenSpec.ofChange fnExactTextOkWrong)

/-- 'laws.FnExactDiffMany': WHATEVER THE INPUT: true; the input reads as it did. -/
def fnExactDiffManySpec : ChangeSpec := { name := "fnExactDiffMany", fn := fun _ => fun
  | [d1, d2] => { results := [.lit (.bool true)], args := [d1, d2] }
  | _ => none }
def fnExactDiffManyRow : OpenClaim := { program := "ytfhkpeoodcffmaa", sum := "5010d66c1589af3144f5bfd22c69aaef5eb330f3d310804fca3ae6bd4e138a1c", func := "loop.example/versioncontrol/laws.FnExactDiffMany", spec := "fnExactDiffMany", apart := false }
def FnExactDiffManySaid : Prop := fnExactDiffManyRow.holds Try.pinned (OpenSpec.ofChange fnExactDiffManySpec)

/-- ITS FALSE NEIGHBOUR: 'it returns false'. Refute it at one input. -/
def fnExactDiffManyWrong : ChangeSpec := { name := "fnExactDiffMany", fn := fun _ => fun
  | [d1, d2] => { results := [.lit (.bool false)], args := [d1, d2] }
  | _ => none }
def FnExactDiffManyWrongFalsely : Prop := fnExactDiffManyRow.holds Try.pinned (OpenSpec.ofChange fnExactDiffManyWrong)

/-- 'laws.FnExactPatchOk': WHATEVER THE INPUT: true; the input reads as it did. -/
def fnExactPatchOkSpec : ChangeSpec := { name := "fnExactPatchOk", fn := fun _ => fun
  | [d] => { results := [.lit (.bool true)], args := [d] }
  | _ => none }
def fnExactPatchOkRow : OpenClaim := { program := "ytfhkpeoodcffmaa", sum := "5010d66c1589af3144f5bfd22c69aaef5eb330f3d310804fca3ae6bd4e138a1c", func := "loop.example/versioncontrol/laws.FnExactPatchOk", spec := "fnExactPatchOk", apart := false }
def FnExactPatchOkSaid : Prop := fnExactPatchOkRow.holds Try.pinned (OpenSpec.ofChange fnExactPatchOkSpec)

/-- ITS FALSE NEIGHBOUR: 'it returns false'. Refute it at one input. -/
def fnExactPatchOkWrong : ChangeSpec := { name := "fnExactPatchOk", fn := fun _ => fun
  | [d] => { results := [.lit (.bool false)], args := [d] }
  | _ => none }
def FnExactPatchOkWrongFalsely : Prop := fnExactPatchOkRow.holds Try.pinned (OpenSpec.ofChange fnExactPatchOkWrong)

/-- 'laws.FnDiffMany': WHATEVER THE INPUT: true; the input reads as it did. -/
def fnDiffManySpec : ChangeSpec := { name := "fnDiffMany", fn := fun _ => fun
  | [d1, d2] => { results := [.lit (.bool true)], args := [d1, d2] }
  | _ => none }
def fnDiffManyRow : OpenClaim := { program := "ytfhkpeoodcffmaa", sum := "5010d66c1589af3144f5bfd22c69aaef5eb330f3d310804fca3ae6bd4e138a1c", func := "loop.example/versioncontrol/laws.FnDiffMany", spec := "fnDiffMany", apart := false }
def FnDiffManySaid : Prop := fnDiffManyRow.holds Try.pinned (OpenSpec.ofChange fnDiffManySpec)

/-- ITS FALSE NEIGHBOUR: 'it returns false'. Refute it at one input. -/
def fnDiffManyWrong : ChangeSpec := { name := "fnDiffMany", fn := fun _ => fun
  | [d1, d2] => { results := [.lit (.bool false)], args := [d1, d2] }
  | _ => none }
def FnDiffManyWrongFalsely : Prop := fnDiffManyRow.holds Try.pinned (OpenSpec.ofChange fnDiffManyWrong)

/-- 'laws.FnExactPatchFree': WHATEVER THE INPUT: true; the input reads as it did. -/
def fnExactPatchFreeSpec : ChangeSpec := { name := "fnExactPatchFree", fn := fun _ => fun
  | [d1, d2] => { results := [.lit (.bool true)], args := [d1, d2] }
  | _ => none }
def fnExactPatchFreeRow : OpenClaim := { program := "ytfhkpeoodcffmaa", sum := "5010d66c1589af3144f5bfd22c69aaef5eb330f3d310804fca3ae6bd4e138a1c", func := "loop.example/versioncontrol/laws.FnExactPatchFree", spec := "fnExactPatchFree", apart := false }
def FnExactPatchFreeSaid : Prop := fnExactPatchFreeRow.holds Try.pinned (OpenSpec.ofChange fnExactPatchFreeSpec)

/-- ITS FALSE NEIGHBOUR: 'it returns false'. Refute it at one input. -/
def fnExactPatchFreeWrong : ChangeSpec := { name := "fnExactPatchFree", fn := fun _ => fun
  | [d1, d2] => { results := [.lit (.bool false)], args := [d1, d2] }
  | _ => none }
def FnExactPatchFreeWrongFalsely : Prop := fnExactPatchFreeRow.holds Try.pinned (OpenSpec.ofChange fnExactPatchFreeWrong)

/- THE SECOND FORM. 'bulk': how many values and letters a reading holds, each counted each time it is reached (what is shared counts as often as it is met; a slice's spare places count too). A statement '..UptoSaid' is the law's where the arguments, and the package variables that the reading takes, are together of bulk at most 1048576: NARROWER than '..Said'. Prove '..Said' where nothing that the law and all that it calls make is longer than what came in: it says more and counts as full. Else prove '..UptoSaid'. A law counts once. -/
mutual
def uptoBulk {H : Type} : DataW H → Nat
  | .lit (.string bytes) => bytes.length + 1
  | .lit _ => 1
  | .nil => 1
  | .ptr d => uptoBulk d + 1
  | .slice elems spare => uptoBulkAll elems + uptoBulkAll spare + 1
  | .agg parts => uptoBulkAll parts + 1
  | .iface _ d => uptoBulk d + 1
  | .map entries => uptoBulkEntries entries + 1
  | .held _ => 1
def uptoBulkAll {H : Type} : List (DataW H) → Nat
  | [] => 0
  | d :: r => uptoBulk d + uptoBulkAll r
def uptoBulkEntries {H : Type} : List (Lit × DataW H) → Nat
  | [] => 0
  | x :: r => uptoBulkEntry x + uptoBulkEntries r
def uptoBulkEntry {H : Type} : Lit × DataW H → Nat
  | (.string bytes, d) => bytes.length + uptoBulk d + 1
  | (_, d) => uptoBulk d + 1
 end
def uptoSmall : (H : Type) → List (DataW H) → Bool := fun _ ds => decide (uptoBulkAll ds ≤ 1048576)
def OpenSpec.upto (s : _root_.Go.ChangeSpec) : _root_.Go.OpenSpec := { _root_.Go.OpenSpec.ofChange s with cond := some uptoSmall }

/-- 'laws.FnExactConstants', WHERE WHAT IT READS IS OF BULK AT MOST 1048576: true; the input reads as it did. -/
def fnExactConstantsUptoRow : OpenClaim := { program := "ytfhkpeoodcffmaa", sum := "5010d66c1589af3144f5bfd22c69aaef5eb330f3d310804fca3ae6bd4e138a1c", func := "loop.example/versioncontrol/laws.FnExactConstants", spec := "fnExactConstants", apart := false, narrowed := true }
def FnExactConstantsUptoSaid : Prop := fnExactConstantsUptoRow.holds Try.pinned (OpenSpec.upto fnExactConstantsSpec)

/-- 'laws.FnExactTextOk', WHERE WHAT IT READS IS OF BULK AT MOST 1048576: true; the input reads as it did. -/
def fnExactTextOkUptoRow : OpenClaim := { program := "ytfhkpeoodcffmaa", sum := "5010d66c1589af3144f5bfd22c69aaef5eb330f3d310804fca3ae6bd4e138a1c", func := "loop.example/versioncontrol/laws.FnExactTextOk", spec := "fnExactTextOk", apart := false, narrowed := true }
def FnExactTextOkUptoSaid : Prop := fnExactTextOkUptoRow.holds Try.pinned (OpenSpec.upto fnExactTextOkSpec)

/-- 'laws.FnExactDiffMany', WHERE WHAT IT READS IS OF BULK AT MOST 1048576: true; the input reads as it did. -/
def fnExactDiffManyUptoRow : OpenClaim := { program := "ytfhkpeoodcffmaa", sum := "5010d66c1589af3144f5bfd22c69aaef5eb330f3d310804fca3ae6bd4e138a1c", func := "loop.example/versioncontrol/laws.FnExactDiffMany", spec := "fnExactDiffMany", apart := false, narrowed := true }
def FnExactDiffManyUptoSaid : Prop := fnExactDiffManyUptoRow.holds Try.pinned (OpenSpec.upto fnExactDiffManySpec)

/-- 'laws.FnExactPatchOk', WHERE WHAT IT READS IS OF BULK AT MOST 1048576: true; the input reads as it did. -/
def fnExactPatchOkUptoRow : OpenClaim := { program := "ytfhkpeoodcffmaa", sum := "5010d66c1589af3144f5bfd22c69aaef5eb330f3d310804fca3ae6bd4e138a1c", func := "loop.example/versioncontrol/laws.FnExactPatchOk", spec := "fnExactPatchOk", apart := false, narrowed := true }
def FnExactPatchOkUptoSaid : Prop := fnExactPatchOkUptoRow.holds Try.pinned (OpenSpec.upto fnExactPatchOkSpec)

/-- 'laws.FnDiffMany', WHERE WHAT IT READS IS OF BULK AT MOST 1048576: true; the input reads as it did. -/
def fnDiffManyUptoRow : OpenClaim := { program := "ytfhkpeoodcffmaa", sum := "5010d66c1589af3144f5bfd22c69aaef5eb330f3d310804fca3ae6bd4e138a1c", func := "loop.example/versioncontrol/laws.FnDiffMany", spec := "fnDiffMany", apart := false, narrowed := true }
def FnDiffManyUptoSaid : Prop := fnDiffManyUptoRow.holds Try.pinned (OpenSpec.upto fnDiffManySpec)

/-- 'laws.FnExactPatchFree', WHERE WHAT IT READS IS OF BULK AT MOST 1048576: true; the input reads as it did. -/
def fnExactPatchFreeUptoRow : OpenClaim := { program := "ytfhkpeoodcffmaa", sum := "5010d66c1589af3144f5bfd22c69aaef5eb330f3d310804fca3ae6bd4e138a1c", func := "loop.example/versioncontrol/laws.FnExactPatchFree", spec := "fnExactPatchFree", apart := false, narrowed := true }
def FnExactPatchFreeUptoSaid : Prop := fnExactPatchFreeUptoRow.holds Try.pinned (OpenSpec.upto fnExactPatchFreeSpec)

end Rows
end Go.Proofs.Ytfhkpeoodcffmaa
