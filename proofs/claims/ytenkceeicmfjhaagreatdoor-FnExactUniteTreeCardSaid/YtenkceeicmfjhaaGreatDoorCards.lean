/-
  DERIVED. GIVEN WITH THE SEED: THE CARDS: each row of YtenkceeicmfjhaaGreatDoorRows.lean that lists a variable, with what it lists TIED to the program's text (the seventh form; the later family's looks); each row that meets fmt, with fmt's text TOLD by the authors' own Lean function (tested against real Go, not proved from fmt's source: count such statements apart). THE CARD IS WHAT COUNTS. Prove the row's statement (the work); the ties are given (YtenkceeicmfjhaaGreatDoorTie.lean); close each card by the builder's one call (the guide's Derived/Test/ToyasCard.lean, 'card_holds'). Laid BY PROGRAM, IN A SANDBOX (cutbox-door.mjs). By AI agents, Wed Nov 11 2026. No macro, syntax, notation, axiom, sorry.
-/
import Derived.Test.YtenkceeicmfjhaaGreatDoorRows
import GoSem.ClaimSeven
namespace Go.Proofs.YtenkceeicmfjhaaGreatDoor
namespace Rows

/-- THE TIED CARD OF 'laws.FnExactUniteTree'. -/
def fnExactUniteTreeCard : Claim7 := { stood := { row := fnExactUniteTreeRow, standIns := [], harness := (true, "59fdb018efb82694feca2465e31cc9ad2e5fcd597f4a93020e104b78f05597c9"), looks := false }, kinds := [], alts := [], laidByText := true, laidKinds := [.data, .pinned], laidTests := true, laidLooks := .later }
def FnExactUniteTreeCardSaid : Prop := Claim7.holds Tryz.pinned (.plain (OpenSpec.ofChange fnExactUniteTreeSpec)) fnExactUniteTreeCard

/-- THE SECOND FORM's CARD OF 'laws.FnExactUniteTree'. -/
def fnExactUniteTreeUptoCard : Claim7 := { stood := { row := fnExactUniteTreeUptoRow, standIns := [], harness := (true, "59fdb018efb82694feca2465e31cc9ad2e5fcd597f4a93020e104b78f05597c9"), looks := false }, kinds := [], alts := [], laidByText := true, laidKinds := [.data, .pinned], laidTests := true, laidLooks := .later }
def FnExactUniteTreeUptoCardSaid : Prop := Claim7.holds Tryz.pinned (.plain (OpenSpec.upto fnExactUniteTreeSpec)) fnExactUniteTreeUptoCard
end Rows
end Go.Proofs.YtenkceeicmfjhaaGreatDoor
