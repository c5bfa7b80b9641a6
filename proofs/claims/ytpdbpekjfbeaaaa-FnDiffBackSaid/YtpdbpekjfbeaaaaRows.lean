/-
  No cell of these rows narrows 'for every input' (looked for: loops, veiled, ifaces, maps, wideKeys, modest, calm, conditions, laid).
  DERIVED. THE GIVEN ROWS OF THIS SEAT. 12 by the template 'for every input the law returns true; each argument reads behind the call as it read before'; 0 by the template 'total and deterministic' (their statements: YtpdbpekjfbeaaaaTotals.lean).
  GIVEN WITH THE SEED: the statements are not yours to turn. If you find one false, say at which input.
  Laid BY PROGRAM, IN A SANDBOX (cutbox-rows.mjs): the forced cells as the released guide's own fill.sh prints them over the translation 81cb194e354c1518… (all of the seat's roots in one cut). By AI agents, Wed Nov 11 2026. No macro, syntax, notation, axiom, sorry.
-/
import Derived.Test.YtpdbpekjfbeaaaaChecked
import GoSem.Claim
import GoSem.ClaimJoined
import GoSem.ClaimMapViews
import Derived.JoinedTies
import Derived.KernelRfl
namespace Go.Proofs.Ytpdbpekjfbeaaaa
/- THE CELL 'sum', in the pinned program and in every row, IS THE sha256 OF THE DUMP (.gsa) THAT YtpdbpekjfbeaaaaProg.lean LOADS. Nothing in Lean hashes anything: it is a label: what it is worth is what the hold of that sum in a sandbox is worth. -/
noncomputable def Try.pinned : Pinned := { name := "ytpdbpekjfbeaaaa", sum := "81cb194e354c1518a7864020abc7097677252cdfcf8447b1a9365e7b5811313a", checked := Try.checked }
namespace Rows
def none {H : Type} : Left H := { results := [], args := [] }

/-- 'laws.FnExactDiffMatch': WHATEVER THE INPUT: true; the input reads as it did. -/
def fnExactDiffMatchSpec : ChangeSpec := { name := "fnExactDiffMatch", fn := fun _ => fun
  | [d1, d2] => { results := [.lit (.bool true)], args := [d1, d2] }
  | _ => none }
def fnExactDiffMatchRow : OpenClaim := { program := "ytpdbpekjfbeaaaa", sum := "81cb194e354c1518a7864020abc7097677252cdfcf8447b1a9365e7b5811313a", func := "loop.example/versioncontrol/laws.FnExactDiffMatch", spec := "fnExactDiffMatch", apart := false }
def FnExactDiffMatchSaid : Prop := fnExactDiffMatchRow.holds Try.pinned (OpenSpec.ofChange fnExactDiffMatchSpec)

/-- ITS FALSE NEIGHBOUR: 'it returns false'. Refute it at one input. -/
def fnExactDiffMatchWrong : ChangeSpec := { name := "fnExactDiffMatch", fn := fun _ => fun
  | [d1, d2] => { results := [.lit (.bool false)], args := [d1, d2] }
  | _ => none }
def FnExactDiffMatchWrongFalsely : Prop := fnExactDiffMatchRow.holds Try.pinned (OpenSpec.ofChange fnExactDiffMatchWrong)

/-- 'laws.FnDiffMatch': WHATEVER THE INPUT: true; the input reads as it did. -/
def fnDiffMatchSpec : ChangeSpec := { name := "fnDiffMatch", fn := fun _ => fun
  | [d] => { results := [.lit (.bool true)], args := [d] }
  | _ => none }
def fnDiffMatchRow : OpenClaim := { program := "ytpdbpekjfbeaaaa", sum := "81cb194e354c1518a7864020abc7097677252cdfcf8447b1a9365e7b5811313a", func := "loop.example/versioncontrol/laws.FnDiffMatch", spec := "fnDiffMatch", apart := false }
def FnDiffMatchSaid : Prop := fnDiffMatchRow.holds Try.pinned (OpenSpec.ofChange fnDiffMatchSpec)

/-- ITS FALSE NEIGHBOUR: 'it returns false'. Refute it at one input. -/
def fnDiffMatchWrong : ChangeSpec := { name := "fnDiffMatch", fn := fun _ => fun
  | [d] => { results := [.lit (.bool false)], args := [d] }
  | _ => none }
def FnDiffMatchWrongFalsely : Prop := fnDiffMatchRow.holds Try.pinned (OpenSpec.ofChange fnDiffMatchWrong)

/-- 'laws.FnPatchFree': WHATEVER THE INPUT: true; the input reads as it did. -/
def fnPatchFreeSpec : ChangeSpec := { name := "fnPatchFree", fn := fun _ => fun
  | [d] => { results := [.lit (.bool true)], args := [d] }
  | _ => none }
def fnPatchFreeRow : OpenClaim := { program := "ytpdbpekjfbeaaaa", sum := "81cb194e354c1518a7864020abc7097677252cdfcf8447b1a9365e7b5811313a", func := "loop.example/versioncontrol/laws.FnPatchFree", spec := "fnPatchFree", apart := false }
def FnPatchFreeSaid : Prop := fnPatchFreeRow.holds Try.pinned (OpenSpec.ofChange fnPatchFreeSpec)

/-- ITS FALSE NEIGHBOUR: 'it returns false'. Refute it at one input. -/
def fnPatchFreeWrong : ChangeSpec := { name := "fnPatchFree", fn := fun _ => fun
  | [d] => { results := [.lit (.bool false)], args := [d] }
  | _ => none }
def FnPatchFreeWrongFalsely : Prop := fnPatchFreeRow.holds Try.pinned (OpenSpec.ofChange fnPatchFreeWrong)

/-- 'laws.FnExactPatchBack': WHATEVER THE INPUT: true; the input reads as it did. -/
def fnExactPatchBackSpec : ChangeSpec := { name := "fnExactPatchBack", fn := fun _ => fun
  | [d] => { results := [.lit (.bool true)], args := [d] }
  | _ => none }
def fnExactPatchBackRow : OpenClaim := { program := "ytpdbpekjfbeaaaa", sum := "81cb194e354c1518a7864020abc7097677252cdfcf8447b1a9365e7b5811313a", func := "loop.example/versioncontrol/laws.FnExactPatchBack", spec := "fnExactPatchBack", apart := false }
def FnExactPatchBackSaid : Prop := fnExactPatchBackRow.holds Try.pinned (OpenSpec.ofChange fnExactPatchBackSpec)

/-- ITS FALSE NEIGHBOUR: 'it returns false'. Refute it at one input. -/
def fnExactPatchBackWrong : ChangeSpec := { name := "fnExactPatchBack", fn := fun _ => fun
  | [d] => { results := [.lit (.bool false)], args := [d] }
  | _ => none }
def FnExactPatchBackWrongFalsely : Prop := fnExactPatchBackRow.holds Try.pinned (OpenSpec.ofChange fnExactPatchBackWrong)

/-- 'laws.FnExactPatchDo': WHATEVER THE INPUT: true; the input reads as it did. -/
def fnExactPatchDoSpec : ChangeSpec := { name := "fnExactPatchDo", fn := fun _ => fun
  | [d1, d2] => { results := [.lit (.bool true)], args := [d1, d2] }
  | _ => none }
def fnExactPatchDoRow : OpenClaim := { program := "ytpdbpekjfbeaaaa", sum := "81cb194e354c1518a7864020abc7097677252cdfcf8447b1a9365e7b5811313a", func := "loop.example/versioncontrol/laws.FnExactPatchDo", spec := "fnExactPatchDo", apart := false }
def FnExactPatchDoSaid : Prop := fnExactPatchDoRow.holds Try.pinned (OpenSpec.ofChange fnExactPatchDoSpec)

/-- ITS FALSE NEIGHBOUR: 'it returns false'. Refute it at one input. -/
def fnExactPatchDoWrong : ChangeSpec := { name := "fnExactPatchDo", fn := fun _ => fun
  | [d1, d2] => { results := [.lit (.bool false)], args := [d1, d2] }
  | _ => none }
def FnExactPatchDoWrongFalsely : Prop := fnExactPatchDoRow.holds Try.pinned (OpenSpec.ofChange fnExactPatchDoWrong)

/-- 'laws.FnExactDiffOf': WHATEVER THE INPUT: true; the input reads as it did. -/
def fnExactDiffOfSpec : ChangeSpec := { name := "fnExactDiffOf", fn := fun _ => fun
  | [d1, d2] => { results := [.lit (.bool true)], args := [d1, d2] }
  | _ => none }
def fnExactDiffOfRow : OpenClaim := { program := "ytpdbpekjfbeaaaa", sum := "81cb194e354c1518a7864020abc7097677252cdfcf8447b1a9365e7b5811313a", func := "loop.example/versioncontrol/laws.FnExactDiffOf", spec := "fnExactDiffOf", apart := false }
def FnExactDiffOfSaid : Prop := fnExactDiffOfRow.holds Try.pinned (OpenSpec.ofChange fnExactDiffOfSpec)

/-- ITS FALSE NEIGHBOUR: 'it returns false'. Refute it at one input. -/
def fnExactDiffOfWrong : ChangeSpec := { name := "fnExactDiffOf", fn := fun _ => fun
  | [d1, d2] => { results := [.lit (.bool false)], args := [d1, d2] }
  | _ => none }
def FnExactDiffOfWrongFalsely : Prop := fnExactDiffOfRow.holds Try.pinned (OpenSpec.ofChange fnExactDiffOfWrong)

/-- 'laws.FnExactPatchShift': WHATEVER THE INPUT: true; the input reads as it did. -/
def fnExactPatchShiftSpec : ChangeSpec := { name := "fnExactPatchShift", fn := fun _ => fun
  | [d1, d2] => { results := [.lit (.bool true)], args := [d1, d2] }
  | _ => none }
def fnExactPatchShiftRow : OpenClaim := { program := "ytpdbpekjfbeaaaa", sum := "81cb194e354c1518a7864020abc7097677252cdfcf8447b1a9365e7b5811313a", func := "loop.example/versioncontrol/laws.FnExactPatchShift", spec := "fnExactPatchShift", apart := false }
def FnExactPatchShiftSaid : Prop := fnExactPatchShiftRow.holds Try.pinned (OpenSpec.ofChange fnExactPatchShiftSpec)

/-- ITS FALSE NEIGHBOUR: 'it returns false'. Refute it at one input. -/
def fnExactPatchShiftWrong : ChangeSpec := { name := "fnExactPatchShift", fn := fun _ => fun
  | [d1, d2] => { results := [.lit (.bool false)], args := [d1, d2] }
  | _ => none }
def FnExactPatchShiftWrongFalsely : Prop := fnExactPatchShiftRow.holds Try.pinned (OpenSpec.ofChange fnExactPatchShiftWrong)

/-- 'laws.FnDiffOf': WHATEVER THE INPUT: true; the input reads as it did. -/
def fnDiffOfSpec : ChangeSpec := { name := "fnDiffOf", fn := fun _ => fun
  | [d] => { results := [.lit (.bool true)], args := [d] }
  | _ => none }
def fnDiffOfRow : OpenClaim := { program := "ytpdbpekjfbeaaaa", sum := "81cb194e354c1518a7864020abc7097677252cdfcf8447b1a9365e7b5811313a", func := "loop.example/versioncontrol/laws.FnDiffOf", spec := "fnDiffOf", apart := false }
def FnDiffOfSaid : Prop := fnDiffOfRow.holds Try.pinned (OpenSpec.ofChange fnDiffOfSpec)

/-- ITS FALSE NEIGHBOUR: 'it returns false'. Refute it at one input. -/
def fnDiffOfWrong : ChangeSpec := { name := "fnDiffOf", fn := fun _ => fun
  | [d] => { results := [.lit (.bool false)], args := [d] }
  | _ => none }
def FnDiffOfWrongFalsely : Prop := fnDiffOfRow.holds Try.pinned (OpenSpec.ofChange fnDiffOfWrong)

/-- 'laws.FnPatchLeast': WHATEVER THE INPUT: true; the input reads as it did. -/
def fnPatchLeastSpec : ChangeSpec := { name := "fnPatchLeast", fn := fun _ => fun
  | [d] => { results := [.lit (.bool true)], args := [d] }
  | _ => none }
def fnPatchLeastRow : OpenClaim := { program := "ytpdbpekjfbeaaaa", sum := "81cb194e354c1518a7864020abc7097677252cdfcf8447b1a9365e7b5811313a", func := "loop.example/versioncontrol/laws.FnPatchLeast", spec := "fnPatchLeast", apart := false }
def FnPatchLeastSaid : Prop := fnPatchLeastRow.holds Try.pinned (OpenSpec.ofChange fnPatchLeastSpec)

/-- ITS FALSE NEIGHBOUR: 'it returns false'. Refute it at one input. -/
def fnPatchLeastWrong : ChangeSpec := { name := "fnPatchLeast", fn := fun _ => fun
  | [d] => { results := [.lit (.bool false)], args := [d] }
  | _ => none }
def FnPatchLeastWrongFalsely : Prop := fnPatchLeastRow.holds Try.pinned (OpenSpec.ofChange fnPatchLeastWrong)

/-- 'laws.FnDiffBack': WHATEVER THE INPUT: true; the input reads as it did. -/
def fnDiffBackSpec : ChangeSpec := { name := "fnDiffBack", fn := fun _ => fun
  | [d] => { results := [.lit (.bool true)], args := [d] }
  | _ => none }
def fnDiffBackRow : OpenClaim := { program := "ytpdbpekjfbeaaaa", sum := "81cb194e354c1518a7864020abc7097677252cdfcf8447b1a9365e7b5811313a", func := "loop.example/versioncontrol/laws.FnDiffBack", spec := "fnDiffBack", apart := false }
def FnDiffBackSaid : Prop := fnDiffBackRow.holds Try.pinned (OpenSpec.ofChange fnDiffBackSpec)

/-- ITS FALSE NEIGHBOUR: 'it returns false'. Refute it at one input. -/
def fnDiffBackWrong : ChangeSpec := { name := "fnDiffBack", fn := fun _ => fun
  | [d] => { results := [.lit (.bool false)], args := [d] }
  | _ => none }
def FnDiffBackWrongFalsely : Prop := fnDiffBackRow.holds Try.pinned (OpenSpec.ofChange fnDiffBackWrong)

/-- 'laws.FnPatchShift': WHATEVER THE INPUT: true; the input reads as it did. -/
def fnPatchShiftSpec : ChangeSpec := { name := "fnPatchShift", fn := fun _ => fun
  | [d] => { results := [.lit (.bool true)], args := [d] }
  | _ => none }
def fnPatchShiftRow : OpenClaim := { program := "ytpdbpekjfbeaaaa", sum := "81cb194e354c1518a7864020abc7097677252cdfcf8447b1a9365e7b5811313a", func := "loop.example/versioncontrol/laws.FnPatchShift", spec := "fnPatchShift", apart := false }
def FnPatchShiftSaid : Prop := fnPatchShiftRow.holds Try.pinned (OpenSpec.ofChange fnPatchShiftSpec)

/-- ITS FALSE NEIGHBOUR: 'it returns false'. Refute it at one input. -/
def fnPatchShiftWrong : ChangeSpec := { name := "fnPatchShift", fn := fun _ => fun
  | [d] => { results := [.lit (.bool false)], args := [d] }
  | _ => none }
def FnPatchShiftWrongFalsely : Prop := fnPatchShiftRow.holds Try.pinned (OpenSpec.ofChange fnPatchShiftWrong)

/-- 'laws.FnPatchBack': WHATEVER THE INPUT: true; the input reads as it did. -/
def fnPatchBackSpec : ChangeSpec := { name := "fnPatchBack", fn := fun _ => fun
  | [d] => { results := [.lit (.bool true)], args := [d] }
  | _ => none }
def fnPatchBackRow : OpenClaim := { program := "ytpdbpekjfbeaaaa", sum := "81cb194e354c1518a7864020abc7097677252cdfcf8447b1a9365e7b5811313a", func := "loop.example/versioncontrol/laws.FnPatchBack", spec := "fnPatchBack", apart := false }
def FnPatchBackSaid : Prop := fnPatchBackRow.holds Try.pinned (OpenSpec.ofChange fnPatchBackSpec)

/-- ITS FALSE NEIGHBOUR: 'it returns false'. Refute it at one input. -/
def fnPatchBackWrong : ChangeSpec := { name := "fnPatchBack", fn := fun _ => fun
  | [d] => { results := [.lit (.bool false)], args := [d] }
  | _ => none }
def FnPatchBackWrongFalsely : Prop := fnPatchBackRow.holds Try.pinned (OpenSpec.ofChange fnPatchBackWrong)

/- THE SECOND FORM. 'bulk': how many values and letters a reading holds, each counted each time it is reached (what is shared counts as often as it is met; a slice's spare places count too). A statement '..UptoSaid' is the law's where the arguments, and the package variables that the reading takes, are together of bulk at most 1048576: NARROWER than '..Said'. Prove '..Said' where nothing that the law and all that it calls make is longer than what came in: it says more and counts as full. Else prove '..UptoSaid'. A law counts once. -/
mutual
def uptoBulk {H : Type} : DataW H → Nat
  | .lit (.string bytes) => bytes.length + 1
  | .lit _ => 1
  | .nil => 1
  | .ptr d => uptoBulk d + 1
  | .slice elems spare => uptoBulkAll elems + uptoBulkAll spare + 1
  | .agg parts => uptoBulkAll parts + 1
  | .iface _ d => uptoBulk d + 1
  | .map entries => uptoBulkEntries entries + 1
  | .held _ => 1
def uptoBulkAll {H : Type} : List (DataW H) → Nat
  | [] => 0
  | d :: r => uptoBulk d + uptoBulkAll r
def uptoBulkEntries {H : Type} : List (Lit × DataW H) → Nat
  | [] => 0
  | x :: r => uptoBulkEntry x + uptoBulkEntries r
def uptoBulkEntry {H : Type} : Lit × DataW H → Nat
  | (.string bytes, d) => bytes.length + uptoBulk d + 1
  | (_, d) => uptoBulk d + 1
 end
def uptoSmall : (H : Type) → List (DataW H) → Bool := fun _ ds => decide (uptoBulkAll ds ≤ 1048576)
def OpenSpec.upto (s : _root_.Go.ChangeSpec) : _root_.Go.OpenSpec := { _root_.Go.OpenSpec.ofChange s with cond := some uptoSmall }

/-- 'laws.FnExactDiffMatch', WHERE WHAT IT READS IS OF BULK AT MOST 1048576: true; the input reads as it did. -/
def fnExactDiffMatchUptoRow : OpenClaim := { program := "ytpdbpekjfbeaaaa", sum := "81cb194e354c1518a7864020abc7097677252cdfcf8447b1a9365e7b5811313a", func := "loop.example/versioncontrol/laws.FnExactDiffMatch", spec := "fnExactDiffMatch", apart := false, narrowed := true }
def FnExactDiffMatchUptoSaid : Prop := fnExactDiffMatchUptoRow.holds Try.pinned (OpenSpec.upto fnExactDiffMatchSpec)

/-- 'laws.FnDiffMatch', WHERE WHAT IT READS IS OF BULK AT MOST 1048576: true; the input reads as it did. -/
def fnDiffMatchUptoRow : OpenClaim := { program := "ytpdbpekjfbeaaaa", sum := "81cb194e354c1518a7864020abc7097677252cdfcf8447b1a9365e7b5811313a", func := "loop.example/versioncontrol/laws.FnDiffMatch", spec := "fnDiffMatch", apart := false, narrowed := true }
def FnDiffMatchUptoSaid : Prop := fnDiffMatchUptoRow.holds Try.pinned (OpenSpec.upto fnDiffMatchSpec)

/-- 'laws.FnPatchFree', WHERE WHAT IT READS IS OF BULK AT MOST 1048576: true; the input reads as it did. -/
def fnPatchFreeUptoRow : OpenClaim := { program := "ytpdbpekjfbeaaaa", sum := "81cb194e354c1518a7864020abc7097677252cdfcf8447b1a9365e7b5811313a", func := "loop.example/versioncontrol/laws.FnPatchFree", spec := "fnPatchFree", apart := false, narrowed := true }
def FnPatchFreeUptoSaid : Prop := fnPatchFreeUptoRow.holds Try.pinned (OpenSpec.upto fnPatchFreeSpec)

/-- 'laws.FnExactPatchBack', WHERE WHAT IT READS IS OF BULK AT MOST 1048576: true; the input reads as it did. -/
def fnExactPatchBackUptoRow : OpenClaim := { program := "ytpdbpekjfbeaaaa", sum := "81cb194e354c1518a7864020abc7097677252cdfcf8447b1a9365e7b5811313a", func := "loop.example/versioncontrol/laws.FnExactPatchBack", spec := "fnExactPatchBack", apart := false, narrowed := true }
def FnExactPatchBackUptoSaid : Prop := fnExactPatchBackUptoRow.holds Try.pinned (OpenSpec.upto fnExactPatchBackSpec)

/-- 'laws.FnExactPatchDo', WHERE WHAT IT READS IS OF BULK AT MOST 1048576: true; the input reads as it did. -/
def fnExactPatchDoUptoRow : OpenClaim := { program := "ytpdbpekjfbeaaaa", sum := "81cb194e354c1518a7864020abc7097677252cdfcf8447b1a9365e7b5811313a", func := "loop.example/versioncontrol/laws.FnExactPatchDo", spec := "fnExactPatchDo", apart := false, narrowed := true }
def FnExactPatchDoUptoSaid : Prop := fnExactPatchDoUptoRow.holds Try.pinned (OpenSpec.upto fnExactPatchDoSpec)

/-- 'laws.FnExactDiffOf', WHERE WHAT IT READS IS OF BULK AT MOST 1048576: true; the input reads as it did. -/
def fnExactDiffOfUptoRow : OpenClaim := { program := "ytpdbpekjfbeaaaa", sum := "81cb194e354c1518a7864020abc7097677252cdfcf8447b1a9365e7b5811313a", func := "loop.example/versioncontrol/laws.FnExactDiffOf", spec := "fnExactDiffOf", apart := false, narrowed := true }
def FnExactDiffOfUptoSaid : Prop := fnExactDiffOfUptoRow.holds Try.pinned (OpenSpec.upto fnExactDiffOfSpec)

/-- 'laws.FnExactPatchShift', WHERE WHAT IT READS IS OF BULK AT MOST 1048576: true; the input reads as it did. -/
def fnExactPatchShiftUptoRow : OpenClaim := { program := "ytpdbpekjfbeaaaa", sum := "81cb194e354c1518a7864020abc7097677252cdfcf8447b1a9365e7b5811313a", func := "loop.example/versioncontrol/laws.FnExactPatchShift", spec := "fnExactPatchShift", apart := false, narrowed := true }
def FnExactPatchShiftUptoSaid : Prop := fnExactPatchShiftUptoRow.holds Try.pinned (OpenSpec.upto fnExactPatchShiftSpec)

/-- 'laws.FnDiffOf', WHERE WHAT IT READS IS OF BULK AT MOST 1048576: true; the input reads as it did. -/
def fnDiffOfUptoRow : OpenClaim := { program := "ytpdbpekjfbeaaaa", sum := "81cb194e354c1518a7864020abc7097677252cdfcf8447b1a9365e7b5811313a", func := "loop.example/versioncontrol/laws.FnDiffOf", spec := "fnDiffOf", apart := false, narrowed := true }
def FnDiffOfUptoSaid : Prop := fnDiffOfUptoRow.holds Try.pinned (OpenSpec.upto fnDiffOfSpec)

/-- 'laws.FnPatchLeast', WHERE WHAT IT READS IS OF BULK AT MOST 1048576: true; the input reads as it did. -/
def fnPatchLeastUptoRow : OpenClaim := { program := "ytpdbpekjfbeaaaa", sum := "81cb194e354c1518a7864020abc7097677252cdfcf8447b1a9365e7b5811313a", func := "loop.example/versioncontrol/laws.FnPatchLeast", spec := "fnPatchLeast", apart := false, narrowed := true }
def FnPatchLeastUptoSaid : Prop := fnPatchLeastUptoRow.holds Try.pinned (OpenSpec.upto fnPatchLeastSpec)

/-- 'laws.FnDiffBack', WHERE WHAT IT READS IS OF BULK AT MOST 1048576: true; the input reads as it did. -/
def fnDiffBackUptoRow : OpenClaim := { program := "ytpdbpekjfbeaaaa", sum := "81cb194e354c1518a7864020abc7097677252cdfcf8447b1a9365e7b5811313a", func := "loop.example/versioncontrol/laws.FnDiffBack", spec := "fnDiffBack", apart := false, narrowed := true }
def FnDiffBackUptoSaid : Prop := fnDiffBackUptoRow.holds Try.pinned (OpenSpec.upto fnDiffBackSpec)

/-- 'laws.FnPatchShift', WHERE WHAT IT READS IS OF BULK AT MOST 1048576: true; the input reads as it did. -/
def fnPatchShiftUptoRow : OpenClaim := { program := "ytpdbpekjfbeaaaa", sum := "81cb194e354c1518a7864020abc7097677252cdfcf8447b1a9365e7b5811313a", func := "loop.example/versioncontrol/laws.FnPatchShift", spec := "fnPatchShift", apart := false, narrowed := true }
def FnPatchShiftUptoSaid : Prop := fnPatchShiftUptoRow.holds Try.pinned (OpenSpec.upto fnPatchShiftSpec)

/-- 'laws.FnPatchBack', WHERE WHAT IT READS IS OF BULK AT MOST 1048576: true; the input reads as it did. -/
def fnPatchBackUptoRow : OpenClaim := { program := "ytpdbpekjfbeaaaa", sum := "81cb194e354c1518a7864020abc7097677252cdfcf8447b1a9365e7b5811313a", func := "loop.example/versioncontrol/laws.FnPatchBack", spec := "fnPatchBack", apart := false, narrowed := true }
def FnPatchBackUptoSaid : Prop := fnPatchBackUptoRow.holds Try.pinned (OpenSpec.upto fnPatchBackSpec)

end Rows
end Go.Proofs.Ytpdbpekjfbeaaaa
