/-
  DERIVED. GIVEN WITH THE SEED: THE CARDS: each row of YtgcioajaglljfaaDoorRows.lean that lists a variable, with what it lists TIED to the program's text (the seventh form; the later family's looks); each row that meets fmt, with fmt's text TOLD by the authors' own Lean function (tested against real Go, not proved from fmt's source: count such statements apart). THE CARD IS WHAT COUNTS. Prove the row's statement (the work); the ties are given (YtgcioajaglljfaaDoorTie.lean); close each card by the builder's one call (the guide's Derived/Test/ToyasCard.lean, 'card_holds'). Laid BY PROGRAM, IN A SANDBOX (cutbox-door.mjs). By AI agents, Wed Nov 11 2026. No macro, syntax, notation, axiom, sorry.
-/
import Derived.Test.YtgcioajaglljfaaDoorRows
import GoSem.ClaimSeven
namespace Go.Proofs.YtgcioajaglljfaaDoor
namespace Rows

/-- THE TIED CARD OF 'laws.FnExactJoinFree'. -/
def fnExactJoinFreeCard : Claim7 := { stood := { row := fnExactJoinFreeRow, standIns := [], harness := (true, "6d7aa3cf6f885831ad5896f23d9ecc46233629475720ef06221a27fd10b01d84"), looks := false }, kinds := [], alts := [], laidByText := true, laidKinds := [.data, .pinned], laidTests := true, laidLooks := .later }
def FnExactJoinFreeCardSaid : Prop := Claim7.holds Tryd.pinned (.plain (OpenSpec.ofChange fnExactJoinFreeSpec)) fnExactJoinFreeCard

/-- THE SECOND FORM's CARD OF 'laws.FnExactJoinFree'. -/
def fnExactJoinFreeUptoCard : Claim7 := { stood := { row := fnExactJoinFreeUptoRow, standIns := [], harness := (true, "6d7aa3cf6f885831ad5896f23d9ecc46233629475720ef06221a27fd10b01d84"), looks := false }, kinds := [], alts := [], laidByText := true, laidKinds := [.data, .pinned], laidTests := true, laidLooks := .later }
def FnExactJoinFreeUptoCardSaid : Prop := Claim7.holds Tryd.pinned (.plain (OpenSpec.upto fnExactJoinFreeSpec)) fnExactJoinFreeUptoCard
end Rows
end Go.Proofs.YtgcioajaglljfaaDoor
