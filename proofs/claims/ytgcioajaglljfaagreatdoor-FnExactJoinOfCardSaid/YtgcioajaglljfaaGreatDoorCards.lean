/-
  DERIVED. GIVEN WITH THE SEED: THE CARDS: each row of YtgcioajaglljfaaGreatDoorRows.lean that lists a variable, with what it lists TIED to the program's text (the seventh form; the later family's looks); each row that meets fmt, with fmt's text TOLD by the authors' own Lean function (tested against real Go, not proved from fmt's source: count such statements apart). THE CARD IS WHAT COUNTS. Prove the row's statement (the work); the ties are given (YtgcioajaglljfaaGreatDoorTie.lean); close each card by the builder's one call (the guide's Derived/Test/ToyasCard.lean, 'card_holds'). Laid BY PROGRAM, IN A SANDBOX (cutbox-door.mjs). By AI agents, Wed Nov 11 2026. No macro, syntax, notation, axiom, sorry.
-/
import Derived.Test.YtgcioajaglljfaaGreatDoorRows
import GoSem.ClaimSeven
namespace Go.Proofs.YtgcioajaglljfaaGreatDoor
namespace Rows

/-- THE TIED CARD OF 'laws.FnExactJoinOf'. -/
def fnExactJoinOfCard : Claim7 := { stood := { row := fnExactJoinOfRow, standIns := [], harness := (true, "6468c7fdf986c561afdbeeea0a0ba059492ba4021ed5d6d72217fe1fec216a15"), looks := false }, kinds := [], alts := [], laidByText := true, laidKinds := [.data, .pinned], laidTests := true, laidLooks := .later }
def FnExactJoinOfCardSaid : Prop := Claim7.holds Tryz.pinned (.plain (OpenSpec.ofChange fnExactJoinOfSpec)) fnExactJoinOfCard

/-- THE TIED CARD OF 'laws.FnExactJoinTree'. -/
def fnExactJoinTreeCard : Claim7 := { stood := { row := fnExactJoinTreeRow, standIns := [], harness := (true, "6468c7fdf986c561afdbeeea0a0ba059492ba4021ed5d6d72217fe1fec216a15"), looks := false }, kinds := [], alts := [], laidByText := true, laidKinds := [.data, .pinned], laidTests := true, laidLooks := .later }
def FnExactJoinTreeCardSaid : Prop := Claim7.holds Tryz.pinned (.plain (OpenSpec.ofChange fnExactJoinTreeSpec)) fnExactJoinTreeCard

/-- THE SECOND FORM's CARD OF 'laws.FnExactJoinOf'. -/
def fnExactJoinOfUptoCard : Claim7 := { stood := { row := fnExactJoinOfUptoRow, standIns := [], harness := (true, "6468c7fdf986c561afdbeeea0a0ba059492ba4021ed5d6d72217fe1fec216a15"), looks := false }, kinds := [], alts := [], laidByText := true, laidKinds := [.data, .pinned], laidTests := true, laidLooks := .later }
def FnExactJoinOfUptoCardSaid : Prop := Claim7.holds Tryz.pinned (.plain (OpenSpec.upto fnExactJoinOfSpec)) fnExactJoinOfUptoCard

/-- THE SECOND FORM's CARD OF 'laws.FnExactJoinTree'. -/
def fnExactJoinTreeUptoCard : Claim7 := { stood := { row := fnExactJoinTreeUptoRow, standIns := [], harness := (true, "6468c7fdf986c561afdbeeea0a0ba059492ba4021ed5d6d72217fe1fec216a15"), looks := false }, kinds := [], alts := [], laidByText := true, laidKinds := [.data, .pinned], laidTests := true, laidLooks := .later }
def FnExactJoinTreeUptoCardSaid : Prop := Claim7.holds Tryz.pinned (.plain (OpenSpec.upto fnExactJoinTreeSpec)) fnExactJoinTreeUptoCard
end Rows
end Go.Proofs.YtgcioajaglljfaaGreatDoor
