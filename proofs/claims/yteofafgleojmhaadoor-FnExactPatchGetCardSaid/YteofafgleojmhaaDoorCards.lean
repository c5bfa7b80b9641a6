/-
  DERIVED. GIVEN WITH THE SEED: THE CARDS: each row of YteofafgleojmhaaDoorRows.lean that lists a variable, with what it lists TIED to the program's text (the seventh form; the later family's looks); each row that meets fmt, with fmt's text TOLD by the authors' own Lean function (tested against real Go, not proved from fmt's source: count such statements apart). THE CARD IS WHAT COUNTS. Prove the row's statement (the work); the ties are given (YteofafgleojmhaaDoorTie.lean); close each card by the builder's one call (the guide's Derived/Test/ToyasCard.lean, 'card_holds'). Laid BY PROGRAM, IN A SANDBOX (cutbox-door.mjs). By AI agents, Wed Nov 11 2026. No macro, syntax, notation, axiom, sorry.
-/
import Derived.Test.YteofafgleojmhaaDoorRows
import GoSem.ClaimSeven
namespace Go.Proofs.YteofafgleojmhaaDoor
namespace Rows

/-- THE TIED CARD OF 'laws.FnExactPatchGet'. -/
def fnExactPatchGetCard : Claim7 := { stood := { row := fnExactPatchGetRow, standIns := [], harness := (true, "9c229b69d3b5dcd24130a70db4c50198c9528d5db06a16a5b16d85c839aab63d"), looks := true }, kinds := [], alts := [], laidByText := true, laidKinds := [.data, .data, .data, .data, .sentinel, .sentinel, .pinned], laidTests := true, laidLooks := .later }
def FnExactPatchGetCardSaid : Prop := Claim7.holds Tryd.pinned (.plain (OpenSpec.ofChange fnExactPatchGetSpec)) fnExactPatchGetCard

/-- THE SECOND FORM's CARD OF 'laws.FnExactPatchGet'. -/
def fnExactPatchGetUptoCard : Claim7 := { stood := { row := fnExactPatchGetUptoRow, standIns := [], harness := (true, "9c229b69d3b5dcd24130a70db4c50198c9528d5db06a16a5b16d85c839aab63d"), looks := true }, kinds := [], alts := [], laidByText := true, laidKinds := [.data, .data, .data, .data, .sentinel, .sentinel, .pinned], laidTests := true, laidLooks := .later }
def FnExactPatchGetUptoCardSaid : Prop := Claim7.holds Tryd.pinned (.plain (OpenSpec.upto fnExactPatchGetSpec)) fnExactPatchGetUptoCard
end Rows
end Go.Proofs.YteofafgleojmhaaDoor
