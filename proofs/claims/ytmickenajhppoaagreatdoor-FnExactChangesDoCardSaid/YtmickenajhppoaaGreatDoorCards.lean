/-
  DERIVED. GIVEN WITH THE SEED: THE CARDS: each row of YtmickenajhppoaaGreatDoorRows.lean that lists a variable, with what it lists TIED to the program's text (the seventh form; the later family's looks); each row that meets fmt, with fmt's text TOLD by the authors' own Lean function (tested against real Go, not proved from fmt's source: count such statements apart). THE CARD IS WHAT COUNTS. Prove the row's statement (the work); the ties are given (YtmickenajhppoaaGreatDoorTie.lean); close each card by the builder's one call (the guide's Derived/Test/ToyasCard.lean, 'card_holds'). Laid BY PROGRAM, IN A SANDBOX (cutbox-door.mjs). By AI agents, Wed Nov 11 2026. No macro, syntax, notation, axiom, sorry.
-/
import Derived.Test.YtmickenajhppoaaGreatDoorRows
import GoSem.ClaimSeven
namespace Go.Proofs.YtmickenajhppoaaGreatDoor
namespace Rows

/-- THE TIED CARD OF 'laws.FnExactChangesDo'. -/
def fnExactChangesDoCard : Claim7 := { stood := { row := fnExactChangesDoRow, standIns := [], harness := (true, "ccefdcf4c19c170f20e3983e289b114b6a117f568da44ddb7cbd3e4cc5164ac6"), looks := false }, kinds := [], alts := [], laidByText := true, laidKinds := [.data, .pinned], laidTests := true, laidLooks := .later }
def FnExactChangesDoCardSaid : Prop := Claim7.holds Tryz.pinned (.plain (OpenSpec.ofChange fnExactChangesDoSpec)) fnExactChangesDoCard

/-- THE SECOND FORM's CARD OF 'laws.FnExactChangesDo'. -/
def fnExactChangesDoUptoCard : Claim7 := { stood := { row := fnExactChangesDoUptoRow, standIns := [], harness := (true, "ccefdcf4c19c170f20e3983e289b114b6a117f568da44ddb7cbd3e4cc5164ac6"), looks := false }, kinds := [], alts := [], laidByText := true, laidKinds := [.data, .pinned], laidTests := true, laidLooks := .later }
def FnExactChangesDoUptoCardSaid : Prop := Claim7.holds Tryz.pinned (.plain (OpenSpec.upto fnExactChangesDoSpec)) fnExactChangesDoUptoCard
end Rows
end Go.Proofs.YtmickenajhppoaaGreatDoor
