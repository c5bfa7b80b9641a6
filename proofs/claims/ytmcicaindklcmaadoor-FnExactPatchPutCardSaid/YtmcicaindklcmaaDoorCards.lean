/-
  DERIVED. GIVEN WITH THE SEED: THE CARDS: each row of YtmcicaindklcmaaDoorRows.lean that lists a variable, with what it lists TIED to the program's text (the seventh form; the later family's looks); each row that meets fmt, with fmt's text TOLD by the authors' own Lean function (tested against real Go, not proved from fmt's source: count such statements apart). THE CARD IS WHAT COUNTS. Prove the row's statement (the work); the ties are given (YtmcicaindklcmaaDoorTie.lean); close each card by the builder's one call (the guide's Derived/Test/ToyasCard.lean, 'card_holds'). Laid BY PROGRAM, IN A SANDBOX (cutbox-door.mjs). By AI agents, Wed Nov 11 2026. No macro, syntax, notation, axiom, sorry.
-/
import Derived.Test.YtmcicaindklcmaaDoorRows
import GoSem.ClaimSeven
namespace Go.Proofs.YtmcicaindklcmaaDoor
namespace Rows

/-- THE TIED CARD OF 'laws.FnExactPatchPut'. -/
def fnExactPatchPutCard : Claim7 := { stood := { row := fnExactPatchPutRow, standIns := [], harness := (true, "cb8cce18ef7c1f6cadf08ff23b47330753c1407e0a603f6a3f99341e7c1b0a76"), looks := true }, kinds := [], alts := [], laidByText := true, laidKinds := [.data, .data, .data], laidTests := true, laidLooks := .later }
def FnExactPatchPutCardSaid : Prop := Claim7.holds Tryd.pinned (.plain (OpenSpec.ofChange fnExactPatchPutSpec)) fnExactPatchPutCard

/-- THE TIED CARD OF 'laws.FnExactPatchGet'. -/
def fnExactPatchGetCard : Claim7 := { stood := { row := fnExactPatchGetRow, standIns := [], harness := (true, "cb8cce18ef7c1f6cadf08ff23b47330753c1407e0a603f6a3f99341e7c1b0a76"), looks := true }, kinds := [], alts := [], laidByText := true, laidKinds := [.data, .data, .data, .data, .sentinel, .sentinel, .pinned], laidTests := true, laidLooks := .later }
def FnExactPatchGetCardSaid : Prop := Claim7.holds Tryd.pinned (.plain (OpenSpec.ofChange fnExactPatchGetSpec)) fnExactPatchGetCard

/-- THE SECOND FORM's CARD OF 'laws.FnExactPatchPut'. -/
def fnExactPatchPutUptoCard : Claim7 := { stood := { row := fnExactPatchPutUptoRow, standIns := [], harness := (true, "cb8cce18ef7c1f6cadf08ff23b47330753c1407e0a603f6a3f99341e7c1b0a76"), looks := true }, kinds := [], alts := [], laidByText := true, laidKinds := [.data, .data, .data], laidTests := true, laidLooks := .later }
def FnExactPatchPutUptoCardSaid : Prop := Claim7.holds Tryd.pinned (.plain (OpenSpec.upto fnExactPatchPutSpec)) fnExactPatchPutUptoCard

/-- THE SECOND FORM's CARD OF 'laws.FnExactPatchGet'. -/
def fnExactPatchGetUptoCard : Claim7 := { stood := { row := fnExactPatchGetUptoRow, standIns := [], harness := (true, "cb8cce18ef7c1f6cadf08ff23b47330753c1407e0a603f6a3f99341e7c1b0a76"), looks := true }, kinds := [], alts := [], laidByText := true, laidKinds := [.data, .data, .data, .data, .sentinel, .sentinel, .pinned], laidTests := true, laidLooks := .later }
def FnExactPatchGetUptoCardSaid : Prop := Claim7.holds Tryd.pinned (.plain (OpenSpec.upto fnExactPatchGetSpec)) fnExactPatchGetUptoCard
end Rows
end Go.Proofs.YtmcicaindklcmaaDoor
