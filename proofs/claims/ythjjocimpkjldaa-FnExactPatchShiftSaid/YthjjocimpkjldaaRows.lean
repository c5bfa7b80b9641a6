/-
  No cell of these rows narrows 'for every input' (looked for: loops, veiled, ifaces, maps, wideKeys, modest, calm, conditions, laid).
  DERIVED. THE GIVEN ROWS OF THIS SEAT. 5 by the template 'for every input the law returns true; each argument reads behind the call as it read before'; 0 by the template 'total and deterministic' (their statements: YthjjocimpkjldaaTotals.lean).
  GIVEN WITH THE SEED: the statements are not yours to turn. If you find one false, say at which input.
  Laid BY PROGRAM, IN A SANDBOX (cutbox-rows.mjs): the forced cells as the released guide's own fill.sh prints them over the translation b450ed597c9bd241… (all of the seat's roots in one cut). By AI agents, Wed Nov 11 2026. No macro, syntax, notation, axiom, sorry.
-/
import Derived.Test.YthjjocimpkjldaaChecked
import GoSem.Claim
import GoSem.ClaimJoined
import GoSem.ClaimMapViews
import Derived.JoinedTies
import Derived.KernelRfl
namespace Go.Proofs.Ythjjocimpkjldaa
/- THE CELL 'sum', in the pinned program and in every row, IS THE sha256 OF THE DUMP (.gsa) THAT YthjjocimpkjldaaProg.lean LOADS. Nothing in Lean hashes anything: it is a label: what it is worth is what the hold of that sum in a sandbox is worth. -/
noncomputable def Try.pinned : Pinned := { name := "ythjjocimpkjldaa", sum := "b450ed597c9bd241b1755c5aec7e7c7ed509529c08438e57cd3f8737b0f157f9", checked := Try.checked }
namespace Rows
def none {H : Type} : Left H := { results := [], args := [] }

/-- 'laws.FnPatchFree': WHATEVER THE INPUT: true; the input reads as it did. -/
def fnPatchFreeSpec : ChangeSpec := { name := "fnPatchFree", fn := fun _ => fun
  | [d] => { results := [.lit (.bool true)], args := [d] }
  | _ => none }
def fnPatchFreeRow : OpenClaim := { program := "ythjjocimpkjldaa", sum := "b450ed597c9bd241b1755c5aec7e7c7ed509529c08438e57cd3f8737b0f157f9", func := "loop.example/versioncontrol/laws.FnPatchFree", spec := "fnPatchFree", apart := false }
def FnPatchFreeSaid : Prop := fnPatchFreeRow.holds Try.pinned (OpenSpec.ofChange fnPatchFreeSpec)

/-- ITS FALSE NEIGHBOUR: 'it returns false'. Refute it at one input. -/
def fnPatchFreeWrong : ChangeSpec := { name := "fnPatchFree", fn := fun _ => fun
  | [d] => { results := [.lit (.bool false)], args := [d] }
  | _ => none }
def FnPatchFreeWrongFalsely : Prop := fnPatchFreeRow.holds Try.pinned (OpenSpec.ofChange fnPatchFreeWrong)

/-- 'laws.FnExactPatchShift': WHATEVER THE INPUT: true; the input reads as it did. -/
def fnExactPatchShiftSpec : ChangeSpec := { name := "fnExactPatchShift", fn := fun _ => fun
  | [d1, d2] => { results := [.lit (.bool true)], args := [d1, d2] }
  | _ => none }
def fnExactPatchShiftRow : OpenClaim := { program := "ythjjocimpkjldaa", sum := "b450ed597c9bd241b1755c5aec7e7c7ed509529c08438e57cd3f8737b0f157f9", func := "loop.example/versioncontrol/laws.FnExactPatchShift", spec := "fnExactPatchShift", apart := false }
def FnExactPatchShiftSaid : Prop := fnExactPatchShiftRow.holds Try.pinned (OpenSpec.ofChange fnExactPatchShiftSpec)

/-- ITS FALSE NEIGHBOUR: 'it returns false'. Refute it at one input. -/
def fnExactPatchShiftWrong : ChangeSpec := { name := "fnExactPatchShift", fn := fun _ => fun
  | [d1, d2] => { results := [.lit (.bool false)], args := [d1, d2] }
  | _ => none }
def FnExactPatchShiftWrongFalsely : Prop := fnExactPatchShiftRow.holds Try.pinned (OpenSpec.ofChange fnExactPatchShiftWrong)

/-- 'laws.FnPatchLeast': WHATEVER THE INPUT: true; the input reads as it did. -/
def fnPatchLeastSpec : ChangeSpec := { name := "fnPatchLeast", fn := fun _ => fun
  | [d] => { results := [.lit (.bool true)], args := [d] }
  | _ => none }
def fnPatchLeastRow : OpenClaim := { program := "ythjjocimpkjldaa", sum := "b450ed597c9bd241b1755c5aec7e7c7ed509529c08438e57cd3f8737b0f157f9", func := "loop.example/versioncontrol/laws.FnPatchLeast", spec := "fnPatchLeast", apart := false }
def FnPatchLeastSaid : Prop := fnPatchLeastRow.holds Try.pinned (OpenSpec.ofChange fnPatchLeastSpec)

/-- ITS FALSE NEIGHBOUR: 'it returns false'. Refute it at one input. -/
def fnPatchLeastWrong : ChangeSpec := { name := "fnPatchLeast", fn := fun _ => fun
  | [d] => { results := [.lit (.bool false)], args := [d] }
  | _ => none }
def FnPatchLeastWrongFalsely : Prop := fnPatchLeastRow.holds Try.pinned (OpenSpec.ofChange fnPatchLeastWrong)

/-- 'laws.FnPatchShift': WHATEVER THE INPUT: true; the input reads as it did. -/
def fnPatchShiftSpec : ChangeSpec := { name := "fnPatchShift", fn := fun _ => fun
  | [d] => { results := [.lit (.bool true)], args := [d] }
  | _ => none }
def fnPatchShiftRow : OpenClaim := { program := "ythjjocimpkjldaa", sum := "b450ed597c9bd241b1755c5aec7e7c7ed509529c08438e57cd3f8737b0f157f9", func := "loop.example/versioncontrol/laws.FnPatchShift", spec := "fnPatchShift", apart := false }
def FnPatchShiftSaid : Prop := fnPatchShiftRow.holds Try.pinned (OpenSpec.ofChange fnPatchShiftSpec)

/-- ITS FALSE NEIGHBOUR: 'it returns false'. Refute it at one input. -/
def fnPatchShiftWrong : ChangeSpec := { name := "fnPatchShift", fn := fun _ => fun
  | [d] => { results := [.lit (.bool false)], args := [d] }
  | _ => none }
def FnPatchShiftWrongFalsely : Prop := fnPatchShiftRow.holds Try.pinned (OpenSpec.ofChange fnPatchShiftWrong)

/-- 'laws.FnPatchBack': WHATEVER THE INPUT: true; the input reads as it did. -/
def fnPatchBackSpec : ChangeSpec := { name := "fnPatchBack", fn := fun _ => fun
  | [d] => { results := [.lit (.bool true)], args := [d] }
  | _ => none }
def fnPatchBackRow : OpenClaim := { program := "ythjjocimpkjldaa", sum := "b450ed597c9bd241b1755c5aec7e7c7ed509529c08438e57cd3f8737b0f157f9", func := "loop.example/versioncontrol/laws.FnPatchBack", spec := "fnPatchBack", apart := false }
def FnPatchBackSaid : Prop := fnPatchBackRow.holds Try.pinned (OpenSpec.ofChange fnPatchBackSpec)

/-- ITS FALSE NEIGHBOUR: 'it returns false'. Refute it at one input. -/
def fnPatchBackWrong : ChangeSpec := { name := "fnPatchBack", fn := fun _ => fun
  | [d] => { results := [.lit (.bool false)], args := [d] }
  | _ => none }
def FnPatchBackWrongFalsely : Prop := fnPatchBackRow.holds Try.pinned (OpenSpec.ofChange fnPatchBackWrong)

/- THE SECOND FORM. 'bulk': how many values and letters a reading holds, each counted each time it is reached (what is shared counts as often as it is met; a slice's spare places count too). A statement '..UptoSaid' is the law's where the arguments, and the package variables that the reading takes, are together of bulk at most 1048576: NARROWER than '..Said'. Prove '..Said' where nothing that the law and all that it calls make is longer than what came in: it says more and counts as full. Else prove '..UptoSaid'. A law counts once. -/
mutual
def uptoBulk {H : Type} : DataW H → Nat
  | .lit (.string bytes) => bytes.length + 1
  | .lit _ => 1
  | .nil => 1
  | .ptr d => uptoBulk d + 1
  | .slice elems spare => uptoBulkAll elems + uptoBulkAll spare + 1
  | .agg parts => uptoBulkAll parts + 1
  | .iface _ d => uptoBulk d + 1
  | .map entries => uptoBulkEntries entries + 1
  | .held _ => 1
def uptoBulkAll {H : Type} : List (DataW H) → Nat
  | [] => 0
  | d :: r => uptoBulk d + uptoBulkAll r
def uptoBulkEntries {H : Type} : List (Lit × DataW H) → Nat
  | [] => 0
  | x :: r => uptoBulkEntry x + uptoBulkEntries r
def uptoBulkEntry {H : Type} : Lit × DataW H → Nat
  | (.string bytes, d) => bytes.length + uptoBulk d + 1
  | (_, d) => uptoBulk d + 1
 end
def uptoSmall : (H : Type) → List (DataW H) → Bool := fun _ ds => decide (uptoBulkAll ds ≤ 1048576)
def OpenSpec.upto (s : _root_.Go.ChangeSpec) : _root_.Go.OpenSpec := { _root_.Go.OpenSpec.ofChange s with cond := some uptoSmall }

/-- 'laws.FnPatchFree', WHERE WHAT IT READS IS OF BULK AT MOST 1048576: true; the input reads as it did. -/
def fnPatchFreeUptoRow : OpenClaim := { program := "ythjjocimpkjldaa", sum := "b450ed597c9bd241b1755c5aec7e7c7ed509529c08438e57cd3f8737b0f157f9", func := "loop.example/versioncontrol/laws.FnPatchFree", spec := "fnPatchFree", apart := false, narrowed := true }
def FnPatchFreeUptoSaid : Prop := fnPatchFreeUptoRow.holds Try.pinned (OpenSpec.upto fnPatchFreeSpec)

/-- 'laws.FnExactPatchShift', WHERE WHAT IT READS IS OF BULK AT MOST 1048576: true; the input reads as it did. -/
def fnExactPatchShiftUptoRow : OpenClaim := { program := "ythjjocimpkjldaa", sum := "b450ed597c9bd241b1755c5aec7e7c7ed509529c08438e57cd3f8737b0f157f9", func := "loop.example/versioncontrol/laws.FnExactPatchShift", spec := "fnExactPatchShift", apart := false, narrowed := true }
def FnExactPatchShiftUptoSaid : Prop := fnExactPatchShiftUptoRow.holds Try.pinned (OpenSpec.upto fnExactPatchShiftSpec)

/-- 'laws.FnPatchLeast', WHERE WHAT IT READS IS OF BULK AT MOST 1048576: true; the input reads as it did. -/
def fnPatchLeastUptoRow : OpenClaim := { program := "ythjjocimpkjldaa", sum := "b450ed597c9bd241b1755c5aec7e7c7ed509529c08438e57cd3f8737b0f157f9", func := "loop.example/versioncontrol/laws.FnPatchLeast", spec := "fnPatchLeast", apart := false, narrowed := true }
def FnPatchLeastUptoSaid : Prop := fnPatchLeastUptoRow.holds Try.pinned (OpenSpec.upto fnPatchLeastSpec)

/-- 'laws.FnPatchShift', WHERE WHAT IT READS IS OF BULK AT MOST 1048576: true; the input reads as it did. -/
def fnPatchShiftUptoRow : OpenClaim := { program := "ythjjocimpkjldaa", sum := "b450ed597c9bd241b1755c5aec7e7c7ed509529c08438e57cd3f8737b0f157f9", func := "loop.example/versioncontrol/laws.FnPatchShift", spec := "fnPatchShift", apart := false, narrowed := true }
def FnPatchShiftUptoSaid : Prop := fnPatchShiftUptoRow.holds Try.pinned (OpenSpec.upto fnPatchShiftSpec)

/-- 'laws.FnPatchBack', WHERE WHAT IT READS IS OF BULK AT MOST 1048576: true; the input reads as it did. -/
def fnPatchBackUptoRow : OpenClaim := { program := "ythjjocimpkjldaa", sum := "b450ed597c9bd241b1755c5aec7e7c7ed509529c08438e57cd3f8737b0f157f9", func := "loop.example/versioncontrol/laws.FnPatchBack", spec := "fnPatchBack", apart := false, narrowed := true }
def FnPatchBackUptoSaid : Prop := fnPatchBackUptoRow.holds Try.pinned (OpenSpec.upto fnPatchBackSpec)

end Rows
end Go.Proofs.Ythjjocimpkjldaa
