/-
  No cell of these rows narrows 'for every input' (looked for: loops, veiled, ifaces, maps, wideKeys, modest, calm, conditions, laid).
  DERIVED. THE GIVEN ROWS OF THIS SEAT. 9 by the template 'for every input the law returns true; each argument reads behind the call as it read before'; 0 by the template 'total and deterministic' (their statements: YtbnhebmfgjdocaaTotals.lean).
  GIVEN WITH THE SEED: the statements are not yours to turn. If you find one false, say at which input.
  Laid BY PROGRAM, IN A SANDBOX (cutbox-rows.mjs): the forced cells as the released guide's own fill.sh prints them over the translation 08f281e424c1df2d… (all of the seat's roots in one cut). By AI agents, Wed Nov 11 2026. No macro, syntax, notation, axiom, sorry.
-/
import Derived.Test.YtbnhebmfgjdocaaChecked
import GoSem.Claim
import GoSem.ClaimJoined
import GoSem.ClaimMapViews
import Derived.JoinedTies
import Derived.KernelRfl
namespace Go.Proofs.Ytbnhebmfgjdocaa
/- THE CELL 'sum', in the pinned program and in every row, IS THE sha256 OF THE DUMP (.gsa) THAT YtbnhebmfgjdocaaProg.lean LOADS. Nothing in Lean hashes anything: it is a label: what it is worth is what the hold of that sum in a sandbox is worth. -/
noncomputable def Try.pinned : Pinned := { name := "ytbnhebmfgjdocaa", sum := "08f281e424c1df2df6b9b79cb7d7089fcd0a78e56ba82e2716e9896c64648dd9", checked := Try.checked }
namespace Rows
def none {H : Type} : Left H := { results := [], args := [] }

/-- 'laws.FnExactMergeClash': WHATEVER THE INPUT: true; the input reads as it did. -/
def fnExactMergeClashSpec : ChangeSpec := { name := "fnExactMergeClash", fn := fun _ => fun
  | [d1, d2, d3] => { results := [.lit (.bool true)], args := [d1, d2, d3] }
  | _ => none }
def fnExactMergeClashRow : OpenClaim := { program := "ytbnhebmfgjdocaa", sum := "08f281e424c1df2df6b9b79cb7d7089fcd0a78e56ba82e2716e9896c64648dd9", func := "loop.example/versioncontrol/laws.FnExactMergeClash", spec := "fnExactMergeClash", unfollowed := true, recurses := true, apart := false }
def FnExactMergeClashSaid : Prop := fnExactMergeClashRow.holds Try.pinned (OpenSpec.ofChange fnExactMergeClashSpec)

/-- ITS FALSE NEIGHBOUR: 'it returns false'. Refute it at one input. -/
def fnExactMergeClashWrong : ChangeSpec := { name := "fnExactMergeClash", fn := fun _ => fun
  | [d1, d2, d3] => { results := [.lit (.bool false)], args := [d1, d2, d3] }
  | _ => none }
def FnExactMergeClashWrongFalsely : Prop := fnExactMergeClashRow.holds Try.pinned (OpenSpec.ofChange fnExactMergeClashWrong)

/-- 'laws.FnExactMergeShow': WHATEVER THE INPUT: true; the input reads as it did. -/
def fnExactMergeShowSpec : ChangeSpec := { name := "fnExactMergeShow", fn := fun _ => fun
  | [d1, d2, d3] => { results := [.lit (.bool true)], args := [d1, d2, d3] }
  | _ => none }
def fnExactMergeShowRow : OpenClaim := { program := "ytbnhebmfgjdocaa", sum := "08f281e424c1df2df6b9b79cb7d7089fcd0a78e56ba82e2716e9896c64648dd9", func := "loop.example/versioncontrol/laws.FnExactMergeShow", spec := "fnExactMergeShow", unfollowed := true, recurses := true, apart := false }
def FnExactMergeShowSaid : Prop := fnExactMergeShowRow.holds Try.pinned (OpenSpec.ofChange fnExactMergeShowSpec)

/-- ITS FALSE NEIGHBOUR: 'it returns false'. Refute it at one input. -/
def fnExactMergeShowWrong : ChangeSpec := { name := "fnExactMergeShow", fn := fun _ => fun
  | [d1, d2, d3] => { results := [.lit (.bool false)], args := [d1, d2, d3] }
  | _ => none }
def FnExactMergeShowWrongFalsely : Prop := fnExactMergeShowRow.holds Try.pinned (OpenSpec.ofChange fnExactMergeShowWrong)

/-- 'laws.FnExactMergeText': WHATEVER THE INPUT: true; the input reads as it did. -/
def fnExactMergeTextSpec : ChangeSpec := { name := "fnExactMergeText", fn := fun _ => fun
  | [d1, d2, d3] => { results := [.lit (.bool true)], args := [d1, d2, d3] }
  | _ => none }
def fnExactMergeTextRow : OpenClaim := { program := "ytbnhebmfgjdocaa", sum := "08f281e424c1df2df6b9b79cb7d7089fcd0a78e56ba82e2716e9896c64648dd9", func := "loop.example/versioncontrol/laws.FnExactMergeText", spec := "fnExactMergeText", unfollowed := true, recurses := true, apart := false }
def FnExactMergeTextSaid : Prop := fnExactMergeTextRow.holds Try.pinned (OpenSpec.ofChange fnExactMergeTextSpec)

/-- ITS FALSE NEIGHBOUR: 'it returns false'. Refute it at one input. -/
def fnExactMergeTextWrong : ChangeSpec := { name := "fnExactMergeText", fn := fun _ => fun
  | [d1, d2, d3] => { results := [.lit (.bool false)], args := [d1, d2, d3] }
  | _ => none }
def FnExactMergeTextWrongFalsely : Prop := fnExactMergeTextRow.holds Try.pinned (OpenSpec.ofChange fnExactMergeTextWrong)

/-- 'laws.FnMergeParts': WHATEVER THE INPUT: true; the input reads as it did. -/
def fnMergePartsSpec : ChangeSpec := { name := "fnMergeParts", fn := fun _ => fun
  | [d] => { results := [.lit (.bool true)], args := [d] }
  | _ => none }
def fnMergePartsRow : OpenClaim := { program := "ytbnhebmfgjdocaa", sum := "08f281e424c1df2df6b9b79cb7d7089fcd0a78e56ba82e2716e9896c64648dd9", func := "loop.example/versioncontrol/laws.FnMergeParts", spec := "fnMergeParts", unfollowed := true, recurses := true, apart := false }
def FnMergePartsSaid : Prop := fnMergePartsRow.holds Try.pinned (OpenSpec.ofChange fnMergePartsSpec)

/-- ITS FALSE NEIGHBOUR: 'it returns false'. Refute it at one input. -/
def fnMergePartsWrong : ChangeSpec := { name := "fnMergeParts", fn := fun _ => fun
  | [d] => { results := [.lit (.bool false)], args := [d] }
  | _ => none }
def FnMergePartsWrongFalsely : Prop := fnMergePartsRow.holds Try.pinned (OpenSpec.ofChange fnMergePartsWrong)

/-- 'laws.FnMergeSwap': WHATEVER THE INPUT: true; the input reads as it did. -/
def fnMergeSwapSpec : ChangeSpec := { name := "fnMergeSwap", fn := fun _ => fun
  | [d] => { results := [.lit (.bool true)], args := [d] }
  | _ => none }
def fnMergeSwapRow : OpenClaim := { program := "ytbnhebmfgjdocaa", sum := "08f281e424c1df2df6b9b79cb7d7089fcd0a78e56ba82e2716e9896c64648dd9", func := "loop.example/versioncontrol/laws.FnMergeSwap", spec := "fnMergeSwap", unfollowed := true, recurses := true, apart := false }
def FnMergeSwapSaid : Prop := fnMergeSwapRow.holds Try.pinned (OpenSpec.ofChange fnMergeSwapSpec)

/-- ITS FALSE NEIGHBOUR: 'it returns false'. Refute it at one input. -/
def fnMergeSwapWrong : ChangeSpec := { name := "fnMergeSwap", fn := fun _ => fun
  | [d] => { results := [.lit (.bool false)], args := [d] }
  | _ => none }
def FnMergeSwapWrongFalsely : Prop := fnMergeSwapRow.holds Try.pinned (OpenSpec.ofChange fnMergeSwapWrong)

/-- 'laws.FnExactMergeSide': WHATEVER THE INPUT: true; the input reads as it did. -/
def fnExactMergeSideSpec : ChangeSpec := { name := "fnExactMergeSide", fn := fun _ => fun
  | [d1, d2, d3, d4] => { results := [.lit (.bool true)], args := [d1, d2, d3, d4] }
  | _ => none }
def fnExactMergeSideRow : OpenClaim := { program := "ytbnhebmfgjdocaa", sum := "08f281e424c1df2df6b9b79cb7d7089fcd0a78e56ba82e2716e9896c64648dd9", func := "loop.example/versioncontrol/laws.FnExactMergeSide", spec := "fnExactMergeSide", unfollowed := true, recurses := true, apart := false }
def FnExactMergeSideSaid : Prop := fnExactMergeSideRow.holds Try.pinned (OpenSpec.ofChange fnExactMergeSideSpec)

/-- ITS FALSE NEIGHBOUR: 'it returns false'. Refute it at one input. -/
def fnExactMergeSideWrong : ChangeSpec := { name := "fnExactMergeSide", fn := fun _ => fun
  | [d1, d2, d3, d4] => { results := [.lit (.bool false)], args := [d1, d2, d3, d4] }
  | _ => none }
def FnExactMergeSideWrongFalsely : Prop := fnExactMergeSideRow.holds Try.pinned (OpenSpec.ofChange fnExactMergeSideWrong)

/-- 'laws.FnMergeOne': WHATEVER THE INPUT: true; the input reads as it did. -/
def fnMergeOneSpec : ChangeSpec := { name := "fnMergeOne", fn := fun _ => fun
  | [d] => { results := [.lit (.bool true)], args := [d] }
  | _ => none }
def fnMergeOneRow : OpenClaim := { program := "ytbnhebmfgjdocaa", sum := "08f281e424c1df2df6b9b79cb7d7089fcd0a78e56ba82e2716e9896c64648dd9", func := "loop.example/versioncontrol/laws.FnMergeOne", spec := "fnMergeOne", unfollowed := true, recurses := true, apart := false }
def FnMergeOneSaid : Prop := fnMergeOneRow.holds Try.pinned (OpenSpec.ofChange fnMergeOneSpec)

/-- ITS FALSE NEIGHBOUR: 'it returns false'. Refute it at one input. -/
def fnMergeOneWrong : ChangeSpec := { name := "fnMergeOne", fn := fun _ => fun
  | [d] => { results := [.lit (.bool false)], args := [d] }
  | _ => none }
def FnMergeOneWrongFalsely : Prop := fnMergeOneRow.holds Try.pinned (OpenSpec.ofChange fnMergeOneWrong)

/-- 'laws.FnExactMergeOf': WHATEVER THE INPUT: true; the input reads as it did. -/
def fnExactMergeOfSpec : ChangeSpec := { name := "fnExactMergeOf", fn := fun _ => fun
  | [d1, d2, d3] => { results := [.lit (.bool true)], args := [d1, d2, d3] }
  | _ => none }
def fnExactMergeOfRow : OpenClaim := { program := "ytbnhebmfgjdocaa", sum := "08f281e424c1df2df6b9b79cb7d7089fcd0a78e56ba82e2716e9896c64648dd9", func := "loop.example/versioncontrol/laws.FnExactMergeOf", spec := "fnExactMergeOf", unfollowed := true, recurses := true, apart := false }
def FnExactMergeOfSaid : Prop := fnExactMergeOfRow.holds Try.pinned (OpenSpec.ofChange fnExactMergeOfSpec)

/-- ITS FALSE NEIGHBOUR: 'it returns false'. Refute it at one input. -/
def fnExactMergeOfWrong : ChangeSpec := { name := "fnExactMergeOf", fn := fun _ => fun
  | [d1, d2, d3] => { results := [.lit (.bool false)], args := [d1, d2, d3] }
  | _ => none }
def FnExactMergeOfWrongFalsely : Prop := fnExactMergeOfRow.holds Try.pinned (OpenSpec.ofChange fnExactMergeOfWrong)

/-- 'laws.FnMergeClash': WHATEVER THE INPUT: true; the input reads as it did. -/
def fnMergeClashSpec : ChangeSpec := { name := "fnMergeClash", fn := fun _ => fun
  | [d] => { results := [.lit (.bool true)], args := [d] }
  | _ => none }
def fnMergeClashRow : OpenClaim := { program := "ytbnhebmfgjdocaa", sum := "08f281e424c1df2df6b9b79cb7d7089fcd0a78e56ba82e2716e9896c64648dd9", func := "loop.example/versioncontrol/laws.FnMergeClash", spec := "fnMergeClash", unfollowed := true, recurses := true, apart := false }
def FnMergeClashSaid : Prop := fnMergeClashRow.holds Try.pinned (OpenSpec.ofChange fnMergeClashSpec)

/-- ITS FALSE NEIGHBOUR: 'it returns false'. Refute it at one input. -/
def fnMergeClashWrong : ChangeSpec := { name := "fnMergeClash", fn := fun _ => fun
  | [d] => { results := [.lit (.bool false)], args := [d] }
  | _ => none }
def FnMergeClashWrongFalsely : Prop := fnMergeClashRow.holds Try.pinned (OpenSpec.ofChange fnMergeClashWrong)

/- THE SECOND FORM. 'bulk': how many values and letters a reading holds, each counted each time it is reached (what is shared counts as often as it is met; a slice's spare places count too). A statement '..UptoSaid' is the law's where the arguments, and the package variables that the reading takes, are together of bulk at most 1048576: NARROWER than '..Said'. Prove '..Said' where nothing that the law and all that it calls make is longer than what came in: it says more and counts as full. Else prove '..UptoSaid'. A law counts once. -/
mutual
def uptoBulk {H : Type} : DataW H → Nat
  | .lit (.string bytes) => bytes.length + 1
  | .lit _ => 1
  | .nil => 1
  | .ptr d => uptoBulk d + 1
  | .slice elems spare => uptoBulkAll elems + uptoBulkAll spare + 1
  | .agg parts => uptoBulkAll parts + 1
  | .iface _ d => uptoBulk d + 1
  | .map entries => uptoBulkEntries entries + 1
  | .held _ => 1
def uptoBulkAll {H : Type} : List (DataW H) → Nat
  | [] => 0
  | d :: r => uptoBulk d + uptoBulkAll r
def uptoBulkEntries {H : Type} : List (Lit × DataW H) → Nat
  | [] => 0
  | x :: r => uptoBulkEntry x + uptoBulkEntries r
def uptoBulkEntry {H : Type} : Lit × DataW H → Nat
  | (.string bytes, d) => bytes.length + uptoBulk d + 1
  | (_, d) => uptoBulk d + 1
 end
def uptoSmall : (H : Type) → List (DataW H) → Bool := fun _ ds => decide (uptoBulkAll ds ≤ 1048576)
def OpenSpec.upto (s : _root_.Go.ChangeSpec) : _root_.Go.OpenSpec := { _root_.Go.OpenSpec.ofChange s with cond := some uptoSmall }

/-- 'laws.FnExactMergeClash', WHERE WHAT IT READS IS OF BULK AT MOST 1048576: true; the input reads as it did. -/
def fnExactMergeClashUptoRow : OpenClaim := { program := "ytbnhebmfgjdocaa", sum := "08f281e424c1df2df6b9b79cb7d7089fcd0a78e56ba82e2716e9896c64648dd9", func := "loop.example/versioncontrol/laws.FnExactMergeClash", spec := "fnExactMergeClash", unfollowed := true, recurses := true, apart := false, narrowed := true }
def FnExactMergeClashUptoSaid : Prop := fnExactMergeClashUptoRow.holds Try.pinned (OpenSpec.upto fnExactMergeClashSpec)

/-- 'laws.FnExactMergeShow', WHERE WHAT IT READS IS OF BULK AT MOST 1048576: true; the input reads as it did. -/
def fnExactMergeShowUptoRow : OpenClaim := { program := "ytbnhebmfgjdocaa", sum := "08f281e424c1df2df6b9b79cb7d7089fcd0a78e56ba82e2716e9896c64648dd9", func := "loop.example/versioncontrol/laws.FnExactMergeShow", spec := "fnExactMergeShow", unfollowed := true, recurses := true, apart := false, narrowed := true }
def FnExactMergeShowUptoSaid : Prop := fnExactMergeShowUptoRow.holds Try.pinned (OpenSpec.upto fnExactMergeShowSpec)

/-- 'laws.FnExactMergeText', WHERE WHAT IT READS IS OF BULK AT MOST 1048576: true; the input reads as it did. -/
def fnExactMergeTextUptoRow : OpenClaim := { program := "ytbnhebmfgjdocaa", sum := "08f281e424c1df2df6b9b79cb7d7089fcd0a78e56ba82e2716e9896c64648dd9", func := "loop.example/versioncontrol/laws.FnExactMergeText", spec := "fnExactMergeText", unfollowed := true, recurses := true, apart := false, narrowed := true }
def FnExactMergeTextUptoSaid : Prop := fnExactMergeTextUptoRow.holds Try.pinned (OpenSpec.upto fnExactMergeTextSpec)

/-- 'laws.FnMergeParts', WHERE WHAT IT READS IS OF BULK AT MOST 1048576: true; the input reads as it did. -/
def fnMergePartsUptoRow : OpenClaim := { program := "ytbnhebmfgjdocaa", sum := "08f281e424c1df2df6b9b79cb7d7089fcd0a78e56ba82e2716e9896c64648dd9", func := "loop.example/versioncontrol/laws.FnMergeParts", spec := "fnMergeParts", unfollowed := true, recurses := true, apart := false, narrowed := true }
def FnMergePartsUptoSaid : Prop := fnMergePartsUptoRow.holds Try.pinned (OpenSpec.upto fnMergePartsSpec)

/-- 'laws.FnMergeSwap', WHERE WHAT IT READS IS OF BULK AT MOST 1048576: true; the input reads as it did. -/
def fnMergeSwapUptoRow : OpenClaim := { program := "ytbnhebmfgjdocaa", sum := "08f281e424c1df2df6b9b79cb7d7089fcd0a78e56ba82e2716e9896c64648dd9", func := "loop.example/versioncontrol/laws.FnMergeSwap", spec := "fnMergeSwap", unfollowed := true, recurses := true, apart := false, narrowed := true }
def FnMergeSwapUptoSaid : Prop := fnMergeSwapUptoRow.holds Try.pinned (OpenSpec.upto fnMergeSwapSpec)

/-- 'laws.FnExactMergeSide', WHERE WHAT IT READS IS OF BULK AT MOST 1048576: true; the input reads as it did. -/
def fnExactMergeSideUptoRow : OpenClaim := { program := "ytbnhebmfgjdocaa", sum := "08f281e424c1df2df6b9b79cb7d7089fcd0a78e56ba82e2716e9896c64648dd9", func := "loop.example/versioncontrol/laws.FnExactMergeSide", spec := "fnExactMergeSide", unfollowed := true, recurses := true, apart := false, narrowed := true }
def FnExactMergeSideUptoSaid : Prop := fnExactMergeSideUptoRow.holds Try.pinned (OpenSpec.upto fnExactMergeSideSpec)

/-- 'laws.FnMergeOne', WHERE WHAT IT READS IS OF BULK AT MOST 1048576: true; the input reads as it did. -/
def fnMergeOneUptoRow : OpenClaim := { program := "ytbnhebmfgjdocaa", sum := "08f281e424c1df2df6b9b79cb7d7089fcd0a78e56ba82e2716e9896c64648dd9", func := "loop.example/versioncontrol/laws.FnMergeOne", spec := "fnMergeOne", unfollowed := true, recurses := true, apart := false, narrowed := true }
def FnMergeOneUptoSaid : Prop := fnMergeOneUptoRow.holds Try.pinned (OpenSpec.upto fnMergeOneSpec)

/-- 'laws.FnExactMergeOf', WHERE WHAT IT READS IS OF BULK AT MOST 1048576: true; the input reads as it did. -/
def fnExactMergeOfUptoRow : OpenClaim := { program := "ytbnhebmfgjdocaa", sum := "08f281e424c1df2df6b9b79cb7d7089fcd0a78e56ba82e2716e9896c64648dd9", func := "loop.example/versioncontrol/laws.FnExactMergeOf", spec := "fnExactMergeOf", unfollowed := true, recurses := true, apart := false, narrowed := true }
def FnExactMergeOfUptoSaid : Prop := fnExactMergeOfUptoRow.holds Try.pinned (OpenSpec.upto fnExactMergeOfSpec)

/-- 'laws.FnMergeClash', WHERE WHAT IT READS IS OF BULK AT MOST 1048576: true; the input reads as it did. -/
def fnMergeClashUptoRow : OpenClaim := { program := "ytbnhebmfgjdocaa", sum := "08f281e424c1df2df6b9b79cb7d7089fcd0a78e56ba82e2716e9896c64648dd9", func := "loop.example/versioncontrol/laws.FnMergeClash", spec := "fnMergeClash", unfollowed := true, recurses := true, apart := false, narrowed := true }
def FnMergeClashUptoSaid : Prop := fnMergeClashUptoRow.holds Try.pinned (OpenSpec.upto fnMergeClashSpec)

end Rows
end Go.Proofs.Ytbnhebmfgjdocaa
