/-
  NARROWER THAN 'FOR EVERY INPUT', by the rows' own cells (each row's printed sentence says how): FnExactRepoOk: laid · FnExactRepoAt: laid · FnExactAncIs: laid · FnExactAncLine: laid · FnExactRepoTree: laid · FnExactAncFar: laid · FnExactAncAll: laid · FnExactAncNew: laid · FnExactAncBases: laid.
  DERIVED. THE GIVEN ROWS OF THIS SEAT. 9 by the template 'for every input the law returns true; each argument reads behind the call as it read before'; 0 by the template 'total and deterministic' (their statements: YtocncjohpikfcaaDoorTotals.lean).
  GIVEN WITH THE SEED: the statements are not yours to turn. If you find one false, say at which input.
  Laid BY PROGRAM, IN A SANDBOX (cutbox-rows.mjs): the forced cells as the released guide's own fill.sh prints them over the translation 7eec80c40e81a365… (all of the seat's roots in one cut). By AI agents, Wed Nov 11 2026. No macro, syntax, notation, axiom, sorry.
-/
import Derived.Test.YtocncjohpikfcaaDoorChecked
import GoSem.PinnedTables
import GoSem.Claim
import GoSem.ClaimJoined
import GoSem.ClaimMapViews
import Derived.JoinedTies
import Derived.KernelRfl
namespace Go.Proofs.YtocncjohpikfcaaDoor
/- THE CELL 'sum', in the pinned program and in every row, IS THE sha256 OF THE DUMP (.gsa) THAT YtocncjohpikfcaaDoorProg.lean LOADS. Nothing in Lean hashes anything: it is a label: what it is worth is what the hold of that sum in a sandbox is worth. -/
noncomputable def Tryd.pinned : Pinned := { name := "ytocncjohpikfcaadoor", sum := "7eec80c40e81a3658c13031158c3805592f6b5da897217e1af1c6adec30c4e90", checked := Tryd.checked }
namespace Rows
def none {H : Type} : Left H := { results := [], args := [] }

/- WHAT THE LISTED PACKAGE-LEVEL VARIABLES READ AS WHEN THE CALL BEGINS. Each datum BY PROGRAM (the guide's laid-datum.mjs) off the statement by which the dump's own 'gosem.cut.vars' lays the variable. In a bare row this is a premise. The card (YtocncjohpikfcaaDoorCards.lean) ties it to the program's text. -/
def laid_unicode_utf8_acceptRanges {H : Type} : DataW H := .agg [.agg [.lit (.int .u8 128), .lit (.int .u8 191)], .agg [.lit (.int .u8 160), .lit (.int .u8 191)], .agg [.lit (.int .u8 128), .lit (.int .u8 159)], .agg [.lit (.int .u8 144), .lit (.int .u8 191)], .agg [.lit (.int .u8 128), .lit (.int .u8 143)], .agg [.lit (.int .u8 0), .lit (.int .u8 0)], .agg [.lit (.int .u8 0), .lit (.int .u8 0)], .agg [.lit (.int .u8 0), .lit (.int .u8 0)], .agg [.lit (.int .u8 0), .lit (.int .u8 0)], .agg [.lit (.int .u8 0), .lit (.int .u8 0)], .agg [.lit (.int .u8 0), .lit (.int .u8 0)], .agg [.lit (.int .u8 0), .lit (.int .u8 0)], .agg [.lit (.int .u8 0), .lit (.int .u8 0)], .agg [.lit (.int .u8 0), .lit (.int .u8 0)], .agg [.lit (.int .u8 0), .lit (.int .u8 0)], .agg [.lit (.int .u8 0), .lit (.int .u8 0)]]
/-- One of Go's own tables, pinned by name: the form's constant. -/
def laid_unicode_utf8_first : DataW Unit := Go.Pinned.utf8First

/-- 'laws.FnExactRepoOk': WHATEVER THE INPUT: true; the input reads as it did. -/
def fnExactRepoOkSpec : ChangeSpec := { name := "fnExactRepoOk", fn := fun _ => fun
  | [d] => { results := [.lit (.bool true)], args := [d] }
  | _ => none }
def fnExactRepoOkRow : OpenClaim := { program := "ytocncjohpikfcaadoor", sum := "7eec80c40e81a3658c13031158c3805592f6b5da897217e1af1c6adec30c4e90", func := "loop.example/versioncontrol/laws.FnExactRepoOk", spec := "fnExactRepoOk", inPlace := ["internal/bytealg.CountString", "internal/bytealg.IndexByteString", "internal/bytealg.IndexString"], named := ["unicode/utf8.first", "unicode/utf8.acceptRanges", "internal/bytealg.MaxLen"], apart := false, laid := [("unicode/utf8.acceptRanges", laid_unicode_utf8_acceptRanges), ("unicode/utf8.first", laid_unicode_utf8_first)] }
def FnExactRepoOkSaid : Prop := fnExactRepoOkRow.holds Tryd.pinned (OpenSpec.ofChange fnExactRepoOkSpec)

/-- ITS FALSE NEIGHBOUR: 'it returns false'. Refute it at one input. -/
def fnExactRepoOkWrong : ChangeSpec := { name := "fnExactRepoOk", fn := fun _ => fun
  | [d] => { results := [.lit (.bool false)], args := [d] }
  | _ => none }
def FnExactRepoOkWrongFalsely : Prop := fnExactRepoOkRow.holds Tryd.pinned (OpenSpec.ofChange fnExactRepoOkWrong)

/-- 'laws.FnExactRepoAt': WHATEVER THE INPUT: true; the input reads as it did. -/
def fnExactRepoAtSpec : ChangeSpec := { name := "fnExactRepoAt", fn := fun _ => fun
  | [d1, d2] => { results := [.lit (.bool true)], args := [d1, d2] }
  | _ => none }
def fnExactRepoAtRow : OpenClaim := { program := "ytocncjohpikfcaadoor", sum := "7eec80c40e81a3658c13031158c3805592f6b5da897217e1af1c6adec30c4e90", func := "loop.example/versioncontrol/laws.FnExactRepoAt", spec := "fnExactRepoAt", inPlace := ["internal/bytealg.CountString", "internal/bytealg.IndexByteString", "internal/bytealg.IndexString"], named := ["unicode/utf8.first", "unicode/utf8.acceptRanges", "internal/bytealg.MaxLen"], apart := false, laid := [("unicode/utf8.acceptRanges", laid_unicode_utf8_acceptRanges), ("unicode/utf8.first", laid_unicode_utf8_first)] }
def FnExactRepoAtSaid : Prop := fnExactRepoAtRow.holds Tryd.pinned (OpenSpec.ofChange fnExactRepoAtSpec)

/-- ITS FALSE NEIGHBOUR: 'it returns false'. Refute it at one input. -/
def fnExactRepoAtWrong : ChangeSpec := { name := "fnExactRepoAt", fn := fun _ => fun
  | [d1, d2] => { results := [.lit (.bool false)], args := [d1, d2] }
  | _ => none }
def FnExactRepoAtWrongFalsely : Prop := fnExactRepoAtRow.holds Tryd.pinned (OpenSpec.ofChange fnExactRepoAtWrong)

/-- 'laws.FnExactAncIs': WHATEVER THE INPUT: true; the input reads as it did. -/
def fnExactAncIsSpec : ChangeSpec := { name := "fnExactAncIs", fn := fun _ => fun
  | [d1, d2, d3] => { results := [.lit (.bool true)], args := [d1, d2, d3] }
  | _ => none }
def fnExactAncIsRow : OpenClaim := { program := "ytocncjohpikfcaadoor", sum := "7eec80c40e81a3658c13031158c3805592f6b5da897217e1af1c6adec30c4e90", func := "loop.example/versioncontrol/laws.FnExactAncIs", spec := "fnExactAncIs", inPlace := ["internal/bytealg.CountString", "internal/bytealg.IndexByteString", "internal/bytealg.IndexString"], named := ["unicode/utf8.first", "unicode/utf8.acceptRanges", "internal/bytealg.MaxLen"], apart := false, laid := [("unicode/utf8.acceptRanges", laid_unicode_utf8_acceptRanges), ("unicode/utf8.first", laid_unicode_utf8_first)] }
def FnExactAncIsSaid : Prop := fnExactAncIsRow.holds Tryd.pinned (OpenSpec.ofChange fnExactAncIsSpec)

/-- ITS FALSE NEIGHBOUR: 'it returns false'. Refute it at one input. -/
def fnExactAncIsWrong : ChangeSpec := { name := "fnExactAncIs", fn := fun _ => fun
  | [d1, d2, d3] => { results := [.lit (.bool false)], args := [d1, d2, d3] }
  | _ => none }
def FnExactAncIsWrongFalsely : Prop := fnExactAncIsRow.holds Tryd.pinned (OpenSpec.ofChange fnExactAncIsWrong)

/-- 'laws.FnExactAncLine': WHATEVER THE INPUT: true; the input reads as it did. -/
def fnExactAncLineSpec : ChangeSpec := { name := "fnExactAncLine", fn := fun _ => fun
  | [d1, d2] => { results := [.lit (.bool true)], args := [d1, d2] }
  | _ => none }
def fnExactAncLineRow : OpenClaim := { program := "ytocncjohpikfcaadoor", sum := "7eec80c40e81a3658c13031158c3805592f6b5da897217e1af1c6adec30c4e90", func := "loop.example/versioncontrol/laws.FnExactAncLine", spec := "fnExactAncLine", inPlace := ["internal/bytealg.CountString", "internal/bytealg.IndexByteString", "internal/bytealg.IndexString"], named := ["unicode/utf8.first", "unicode/utf8.acceptRanges", "internal/bytealg.MaxLen"], apart := false, laid := [("unicode/utf8.acceptRanges", laid_unicode_utf8_acceptRanges), ("unicode/utf8.first", laid_unicode_utf8_first)] }
def FnExactAncLineSaid : Prop := fnExactAncLineRow.holds Tryd.pinned (OpenSpec.ofChange fnExactAncLineSpec)

/-- ITS FALSE NEIGHBOUR: 'it returns false'. Refute it at one input. -/
def fnExactAncLineWrong : ChangeSpec := { name := "fnExactAncLine", fn := fun _ => fun
  | [d1, d2] => { results := [.lit (.bool false)], args := [d1, d2] }
  | _ => none }
def FnExactAncLineWrongFalsely : Prop := fnExactAncLineRow.holds Tryd.pinned (OpenSpec.ofChange fnExactAncLineWrong)

/-- 'laws.FnExactRepoTree': WHATEVER THE INPUT: true; the input reads as it did. -/
def fnExactRepoTreeSpec : ChangeSpec := { name := "fnExactRepoTree", fn := fun _ => fun
  | [d1, d2] => { results := [.lit (.bool true)], args := [d1, d2] }
  | _ => none }
def fnExactRepoTreeRow : OpenClaim := { program := "ytocncjohpikfcaadoor", sum := "7eec80c40e81a3658c13031158c3805592f6b5da897217e1af1c6adec30c4e90", func := "loop.example/versioncontrol/laws.FnExactRepoTree", spec := "fnExactRepoTree", inPlace := ["internal/bytealg.CountString", "internal/bytealg.IndexByteString", "internal/bytealg.IndexString"], named := ["unicode/utf8.first", "unicode/utf8.acceptRanges", "internal/bytealg.MaxLen"], apart := false, laid := [("unicode/utf8.acceptRanges", laid_unicode_utf8_acceptRanges), ("unicode/utf8.first", laid_unicode_utf8_first)] }
def FnExactRepoTreeSaid : Prop := fnExactRepoTreeRow.holds Tryd.pinned (OpenSpec.ofChange fnExactRepoTreeSpec)

/-- ITS FALSE NEIGHBOUR: 'it returns false'. Refute it at one input. -/
def fnExactRepoTreeWrong : ChangeSpec := { name := "fnExactRepoTree", fn := fun _ => fun
  | [d1, d2] => { results := [.lit (.bool false)], args := [d1, d2] }
  | _ => none }
def FnExactRepoTreeWrongFalsely : Prop := fnExactRepoTreeRow.holds Tryd.pinned (OpenSpec.ofChange fnExactRepoTreeWrong)

/-- 'laws.FnExactAncFar': WHATEVER THE INPUT: true; the input reads as it did. -/
def fnExactAncFarSpec : ChangeSpec := { name := "fnExactAncFar", fn := fun _ => fun
  | [d1, d2] => { results := [.lit (.bool true)], args := [d1, d2] }
  | _ => none }
def fnExactAncFarRow : OpenClaim := { program := "ytocncjohpikfcaadoor", sum := "7eec80c40e81a3658c13031158c3805592f6b5da897217e1af1c6adec30c4e90", func := "loop.example/versioncontrol/laws.FnExactAncFar", spec := "fnExactAncFar", inPlace := ["internal/bytealg.CountString", "internal/bytealg.IndexByteString", "internal/bytealg.IndexString"], named := ["unicode/utf8.first", "unicode/utf8.acceptRanges", "internal/bytealg.MaxLen"], apart := false, laid := [("unicode/utf8.acceptRanges", laid_unicode_utf8_acceptRanges), ("unicode/utf8.first", laid_unicode_utf8_first)] }
def FnExactAncFarSaid : Prop := fnExactAncFarRow.holds Tryd.pinned (OpenSpec.ofChange fnExactAncFarSpec)

/-- ITS FALSE NEIGHBOUR: 'it returns false'. Refute it at one input. -/
def fnExactAncFarWrong : ChangeSpec := { name := "fnExactAncFar", fn := fun _ => fun
  | [d1, d2] => { results := [.lit (.bool false)], args := [d1, d2] }
  | _ => none }
def FnExactAncFarWrongFalsely : Prop := fnExactAncFarRow.holds Tryd.pinned (OpenSpec.ofChange fnExactAncFarWrong)

/-- 'laws.FnExactAncAll': WHATEVER THE INPUT: true; the input reads as it did. -/
def fnExactAncAllSpec : ChangeSpec := { name := "fnExactAncAll", fn := fun _ => fun
  | [d1, d2] => { results := [.lit (.bool true)], args := [d1, d2] }
  | _ => none }
def fnExactAncAllRow : OpenClaim := { program := "ytocncjohpikfcaadoor", sum := "7eec80c40e81a3658c13031158c3805592f6b5da897217e1af1c6adec30c4e90", func := "loop.example/versioncontrol/laws.FnExactAncAll", spec := "fnExactAncAll", inPlace := ["internal/bytealg.CountString", "internal/bytealg.IndexByteString", "internal/bytealg.IndexString"], named := ["unicode/utf8.first", "unicode/utf8.acceptRanges", "internal/bytealg.MaxLen"], apart := false, laid := [("unicode/utf8.acceptRanges", laid_unicode_utf8_acceptRanges), ("unicode/utf8.first", laid_unicode_utf8_first)] }
def FnExactAncAllSaid : Prop := fnExactAncAllRow.holds Tryd.pinned (OpenSpec.ofChange fnExactAncAllSpec)

/-- ITS FALSE NEIGHBOUR: 'it returns false'. Refute it at one input. -/
def fnExactAncAllWrong : ChangeSpec := { name := "fnExactAncAll", fn := fun _ => fun
  | [d1, d2] => { results := [.lit (.bool false)], args := [d1, d2] }
  | _ => none }
def FnExactAncAllWrongFalsely : Prop := fnExactAncAllRow.holds Tryd.pinned (OpenSpec.ofChange fnExactAncAllWrong)

/-- 'laws.FnExactAncNew': WHATEVER THE INPUT: true; the input reads as it did. -/
def fnExactAncNewSpec : ChangeSpec := { name := "fnExactAncNew", fn := fun _ => fun
  | [d1, d2, d3] => { results := [.lit (.bool true)], args := [d1, d2, d3] }
  | _ => none }
def fnExactAncNewRow : OpenClaim := { program := "ytocncjohpikfcaadoor", sum := "7eec80c40e81a3658c13031158c3805592f6b5da897217e1af1c6adec30c4e90", func := "loop.example/versioncontrol/laws.FnExactAncNew", spec := "fnExactAncNew", inPlace := ["internal/bytealg.CountString", "internal/bytealg.IndexByteString", "internal/bytealg.IndexString"], named := ["unicode/utf8.first", "unicode/utf8.acceptRanges", "internal/bytealg.MaxLen"], apart := false, laid := [("unicode/utf8.acceptRanges", laid_unicode_utf8_acceptRanges), ("unicode/utf8.first", laid_unicode_utf8_first)] }
def FnExactAncNewSaid : Prop := fnExactAncNewRow.holds Tryd.pinned (OpenSpec.ofChange fnExactAncNewSpec)

/-- ITS FALSE NEIGHBOUR: 'it returns false'. Refute it at one input. -/
def fnExactAncNewWrong : ChangeSpec := { name := "fnExactAncNew", fn := fun _ => fun
  | [d1, d2, d3] => { results := [.lit (.bool false)], args := [d1, d2, d3] }
  | _ => none }
def FnExactAncNewWrongFalsely : Prop := fnExactAncNewRow.holds Tryd.pinned (OpenSpec.ofChange fnExactAncNewWrong)

/-- 'laws.FnExactAncBases': WHATEVER THE INPUT: true; the input reads as it did. -/
def fnExactAncBasesSpec : ChangeSpec := { name := "fnExactAncBases", fn := fun _ => fun
  | [d1, d2, d3] => { results := [.lit (.bool true)], args := [d1, d2, d3] }
  | _ => none }
def fnExactAncBasesRow : OpenClaim := { program := "ytocncjohpikfcaadoor", sum := "7eec80c40e81a3658c13031158c3805592f6b5da897217e1af1c6adec30c4e90", func := "loop.example/versioncontrol/laws.FnExactAncBases", spec := "fnExactAncBases", inPlace := ["internal/bytealg.CountString", "internal/bytealg.IndexByteString", "internal/bytealg.IndexString"], named := ["unicode/utf8.first", "unicode/utf8.acceptRanges", "internal/bytealg.MaxLen"], apart := false, laid := [("unicode/utf8.acceptRanges", laid_unicode_utf8_acceptRanges), ("unicode/utf8.first", laid_unicode_utf8_first)] }
def FnExactAncBasesSaid : Prop := fnExactAncBasesRow.holds Tryd.pinned (OpenSpec.ofChange fnExactAncBasesSpec)

/-- ITS FALSE NEIGHBOUR: 'it returns false'. Refute it at one input. -/
def fnExactAncBasesWrong : ChangeSpec := { name := "fnExactAncBases", fn := fun _ => fun
  | [d1, d2, d3] => { results := [.lit (.bool false)], args := [d1, d2, d3] }
  | _ => none }
def FnExactAncBasesWrongFalsely : Prop := fnExactAncBasesRow.holds Tryd.pinned (OpenSpec.ofChange fnExactAncBasesWrong)

/- THE SECOND FORM. 'bulk': how many values and letters a reading holds, each counted each time it is reached (what is shared counts as often as it is met; a slice's spare places count too). A statement '..UptoSaid' is the law's where the arguments, and the package variables that the reading takes, are together of bulk at most 1048576: NARROWER than '..Said'. Prove '..Said' where nothing that the law and all that it calls make is longer than what came in: it says more and counts as full. Else prove '..UptoSaid'. A law counts once. -/
mutual
def uptoBulk {H : Type} : DataW H → Nat
  | .lit (.string bytes) => bytes.length + 1
  | .lit _ => 1
  | .nil => 1
  | .ptr d => uptoBulk d + 1
  | .slice elems spare => uptoBulkAll elems + uptoBulkAll spare + 1
  | .agg parts => uptoBulkAll parts + 1
  | .iface _ d => uptoBulk d + 1
  | .map entries => uptoBulkEntries entries + 1
  | .held _ => 1
def uptoBulkAll {H : Type} : List (DataW H) → Nat
  | [] => 0
  | d :: r => uptoBulk d + uptoBulkAll r
def uptoBulkEntries {H : Type} : List (Lit × DataW H) → Nat
  | [] => 0
  | x :: r => uptoBulkEntry x + uptoBulkEntries r
def uptoBulkEntry {H : Type} : Lit × DataW H → Nat
  | (.string bytes, d) => bytes.length + uptoBulk d + 1
  | (_, d) => uptoBulk d + 1
 end
def uptoSmall : (H : Type) → List (DataW H) → Bool := fun _ ds => decide (uptoBulkAll ds ≤ 1048576)
def OpenSpec.upto (s : _root_.Go.ChangeSpec) : _root_.Go.OpenSpec := { _root_.Go.OpenSpec.ofChange s with cond := some uptoSmall }

/-- 'laws.FnExactRepoOk', WHERE WHAT IT READS IS OF BULK AT MOST 1048576: true; the input reads as it did. -/
def fnExactRepoOkUptoRow : OpenClaim := { program := "ytocncjohpikfcaadoor", sum := "7eec80c40e81a3658c13031158c3805592f6b5da897217e1af1c6adec30c4e90", func := "loop.example/versioncontrol/laws.FnExactRepoOk", spec := "fnExactRepoOk", inPlace := ["internal/bytealg.CountString", "internal/bytealg.IndexByteString", "internal/bytealg.IndexString"], named := ["unicode/utf8.first", "unicode/utf8.acceptRanges", "internal/bytealg.MaxLen"], apart := false, laid := [("unicode/utf8.acceptRanges", laid_unicode_utf8_acceptRanges), ("unicode/utf8.first", laid_unicode_utf8_first)], narrowed := true }
def FnExactRepoOkUptoSaid : Prop := fnExactRepoOkUptoRow.holds Tryd.pinned (OpenSpec.upto fnExactRepoOkSpec)

/-- 'laws.FnExactRepoAt', WHERE WHAT IT READS IS OF BULK AT MOST 1048576: true; the input reads as it did. -/
def fnExactRepoAtUptoRow : OpenClaim := { program := "ytocncjohpikfcaadoor", sum := "7eec80c40e81a3658c13031158c3805592f6b5da897217e1af1c6adec30c4e90", func := "loop.example/versioncontrol/laws.FnExactRepoAt", spec := "fnExactRepoAt", inPlace := ["internal/bytealg.CountString", "internal/bytealg.IndexByteString", "internal/bytealg.IndexString"], named := ["unicode/utf8.first", "unicode/utf8.acceptRanges", "internal/bytealg.MaxLen"], apart := false, laid := [("unicode/utf8.acceptRanges", laid_unicode_utf8_acceptRanges), ("unicode/utf8.first", laid_unicode_utf8_first)], narrowed := true }
def FnExactRepoAtUptoSaid : Prop := fnExactRepoAtUptoRow.holds Tryd.pinned (OpenSpec.upto fnExactRepoAtSpec)

/-- 'laws.FnExactAncIs', WHERE WHAT IT READS IS OF BULK AT MOST 1048576: true; the input reads as it did. -/
def fnExactAncIsUptoRow : OpenClaim := { program := "ytocncjohpikfcaadoor", sum := "7eec80c40e81a3658c13031158c3805592f6b5da897217e1af1c6adec30c4e90", func := "loop.example/versioncontrol/laws.FnExactAncIs", spec := "fnExactAncIs", inPlace := ["internal/bytealg.CountString", "internal/bytealg.IndexByteString", "internal/bytealg.IndexString"], named := ["unicode/utf8.first", "unicode/utf8.acceptRanges", "internal/bytealg.MaxLen"], apart := false, laid := [("unicode/utf8.acceptRanges", laid_unicode_utf8_acceptRanges), ("unicode/utf8.first", laid_unicode_utf8_first)], narrowed := true }
def FnExactAncIsUptoSaid : Prop := fnExactAncIsUptoRow.holds Tryd.pinned (OpenSpec.upto fnExactAncIsSpec)

/-- 'laws.FnExactAncLine', WHERE WHAT IT READS IS OF BULK AT MOST 1048576: true; the input reads as it did. -/
def fnExactAncLineUptoRow : OpenClaim := { program := "ytocncjohpikfcaadoor", sum := "7eec80c40e81a3658c13031158c3805592f6b5da897217e1af1c6adec30c4e90", func := "loop.example/versioncontrol/laws.FnExactAncLine", spec := "fnExactAncLine", inPlace := ["internal/bytealg.CountString", "internal/bytealg.IndexByteString", "internal/bytealg.IndexString"], named := ["unicode/utf8.first", "unicode/utf8.acceptRanges", "internal/bytealg.MaxLen"], apart := false, laid := [("unicode/utf8.acceptRanges", laid_unicode_utf8_acceptRanges), ("unicode/utf8.first", laid_unicode_utf8_first)], narrowed := true }
def FnExactAncLineUptoSaid : Prop := fnExactAncLineUptoRow.holds Tryd.pinned (OpenSpec.upto fnExactAncLineSpec)

/-- 'laws.FnExactRepoTree', WHERE WHAT IT READS IS OF BULK AT MOST 1048576: true; the input reads as it did. -/
def fnExactRepoTreeUptoRow : OpenClaim := { program := "ytocncjohpikfcaadoor", sum := "7eec80c40e81a3658c13031158c3805592f6b5da897217e1af1c6adec30c4e90", func := "loop.example/versioncontrol/laws.FnExactRepoTree", spec := "fnExactRepoTree", inPlace := ["internal/bytealg.CountString", "internal/bytealg.IndexByteString", "internal/bytealg.IndexString"], named := ["unicode/utf8.first", "unicode/utf8.acceptRanges", "internal/bytealg.MaxLen"], apart := false, laid := [("unicode/utf8.acceptRanges", laid_unicode_utf8_acceptRanges), ("unicode/utf8.first", laid_unicode_utf8_first)], narrowed := true }
def FnExactRepoTreeUptoSaid : Prop := fnExactRepoTreeUptoRow.holds Tryd.pinned (OpenSpec.upto fnExactRepoTreeSpec)

/-- 'laws.FnExactAncFar', WHERE WHAT IT READS IS OF BULK AT MOST 1048576: true; the input reads as it did. -/
def fnExactAncFarUptoRow : OpenClaim := { program := "ytocncjohpikfcaadoor", sum := "7eec80c40e81a3658c13031158c3805592f6b5da897217e1af1c6adec30c4e90", func := "loop.example/versioncontrol/laws.FnExactAncFar", spec := "fnExactAncFar", inPlace := ["internal/bytealg.CountString", "internal/bytealg.IndexByteString", "internal/bytealg.IndexString"], named := ["unicode/utf8.first", "unicode/utf8.acceptRanges", "internal/bytealg.MaxLen"], apart := false, laid := [("unicode/utf8.acceptRanges", laid_unicode_utf8_acceptRanges), ("unicode/utf8.first", laid_unicode_utf8_first)], narrowed := true }
def FnExactAncFarUptoSaid : Prop := fnExactAncFarUptoRow.holds Tryd.pinned (OpenSpec.upto fnExactAncFarSpec)

/-- 'laws.FnExactAncAll', WHERE WHAT IT READS IS OF BULK AT MOST 1048576: true; the input reads as it did. -/
def fnExactAncAllUptoRow : OpenClaim := { program := "ytocncjohpikfcaadoor", sum := "7eec80c40e81a3658c13031158c3805592f6b5da897217e1af1c6adec30c4e90", func := "loop.example/versioncontrol/laws.FnExactAncAll", spec := "fnExactAncAll", inPlace := ["internal/bytealg.CountString", "internal/bytealg.IndexByteString", "internal/bytealg.IndexString"], named := ["unicode/utf8.first", "unicode/utf8.acceptRanges", "internal/bytealg.MaxLen"], apart := false, laid := [("unicode/utf8.acceptRanges", laid_unicode_utf8_acceptRanges), ("unicode/utf8.first", laid_unicode_utf8_first)], narrowed := true }
def FnExactAncAllUptoSaid : Prop := fnExactAncAllUptoRow.holds Tryd.pinned (OpenSpec.upto fnExactAncAllSpec)

/-- 'laws.FnExactAncNew', WHERE WHAT IT READS IS OF BULK AT MOST 1048576: true; the input reads as it did. -/
def fnExactAncNewUptoRow : OpenClaim := { program := "ytocncjohpikfcaadoor", sum := "7eec80c40e81a3658c13031158c3805592f6b5da897217e1af1c6adec30c4e90", func := "loop.example/versioncontrol/laws.FnExactAncNew", spec := "fnExactAncNew", inPlace := ["internal/bytealg.CountString", "internal/bytealg.IndexByteString", "internal/bytealg.IndexString"], named := ["unicode/utf8.first", "unicode/utf8.acceptRanges", "internal/bytealg.MaxLen"], apart := false, laid := [("unicode/utf8.acceptRanges", laid_unicode_utf8_acceptRanges), ("unicode/utf8.first", laid_unicode_utf8_first)], narrowed := true }
def FnExactAncNewUptoSaid : Prop := fnExactAncNewUptoRow.holds Tryd.pinned (OpenSpec.upto fnExactAncNewSpec)

/-- 'laws.FnExactAncBases', WHERE WHAT IT READS IS OF BULK AT MOST 1048576: true; the input reads as it did. -/
def fnExactAncBasesUptoRow : OpenClaim := { program := "ytocncjohpikfcaadoor", sum := "7eec80c40e81a3658c13031158c3805592f6b5da897217e1af1c6adec30c4e90", func := "loop.example/versioncontrol/laws.FnExactAncBases", spec := "fnExactAncBases", inPlace := ["internal/bytealg.CountString", "internal/bytealg.IndexByteString", "internal/bytealg.IndexString"], named := ["unicode/utf8.first", "unicode/utf8.acceptRanges", "internal/bytealg.MaxLen"], apart := false, laid := [("unicode/utf8.acceptRanges", laid_unicode_utf8_acceptRanges), ("unicode/utf8.first", laid_unicode_utf8_first)], narrowed := true }
def FnExactAncBasesUptoSaid : Prop := fnExactAncBasesUptoRow.holds Tryd.pinned (OpenSpec.upto fnExactAncBasesSpec)

end Rows
end Go.Proofs.YtocncjohpikfcaaDoor
