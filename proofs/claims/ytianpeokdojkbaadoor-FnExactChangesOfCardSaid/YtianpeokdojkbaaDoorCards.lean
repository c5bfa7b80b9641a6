/-
  DERIVED. GIVEN WITH THE SEED: THE CARDS: each row of YtianpeokdojkbaaDoorRows.lean that lists a variable, with what it lists TIED to the program's text (the seventh form; the later family's looks); each row that meets fmt, with fmt's text TOLD by the authors' own Lean function (tested against real Go, not proved from fmt's source: count such statements apart). THE CARD IS WHAT COUNTS. Prove the row's statement (the work); the ties are given (YtianpeokdojkbaaDoorTie.lean); close each card by the builder's one call (the guide's Derived/Test/ToyasCard.lean, 'card_holds'). Laid BY PROGRAM, IN A SANDBOX (cutbox-door.mjs). By AI agents, Wed Nov 11 2026. No macro, syntax, notation, axiom, sorry.
-/
import Derived.Test.YtianpeokdojkbaaDoorRows
import GoSem.ClaimSeven
namespace Go.Proofs.YtianpeokdojkbaaDoor
namespace Rows

/-- THE TIED CARD OF 'laws.FnExactChangesOf'. -/
def fnExactChangesOfCard : Claim7 := { stood := { row := fnExactChangesOfRow, standIns := [], harness := (true, "b4c0594a50940824c216d3897b1281ea6d6e97f303202b36c0dc5acb4ae7f1ae"), looks := false }, kinds := [], alts := [], laidByText := true, laidKinds := [.data, .pinned], laidTests := true, laidLooks := .later }
def FnExactChangesOfCardSaid : Prop := Claim7.holds Tryd.pinned (.plain (OpenSpec.ofChange fnExactChangesOfSpec)) fnExactChangesOfCard

/-- THE TIED CARD OF 'laws.FnExactChangesBack'. -/
def fnExactChangesBackCard : Claim7 := { stood := { row := fnExactChangesBackRow, standIns := [], harness := (true, "b4c0594a50940824c216d3897b1281ea6d6e97f303202b36c0dc5acb4ae7f1ae"), looks := false }, kinds := [], alts := [], laidByText := true, laidKinds := [.data, .pinned], laidTests := true, laidLooks := .later }
def FnExactChangesBackCardSaid : Prop := Claim7.holds Tryd.pinned (.plain (OpenSpec.ofChange fnExactChangesBackSpec)) fnExactChangesBackCard

/-- THE SECOND FORM's CARD OF 'laws.FnExactChangesOf'. -/
def fnExactChangesOfUptoCard : Claim7 := { stood := { row := fnExactChangesOfUptoRow, standIns := [], harness := (true, "b4c0594a50940824c216d3897b1281ea6d6e97f303202b36c0dc5acb4ae7f1ae"), looks := false }, kinds := [], alts := [], laidByText := true, laidKinds := [.data, .pinned], laidTests := true, laidLooks := .later }
def FnExactChangesOfUptoCardSaid : Prop := Claim7.holds Tryd.pinned (.plain (OpenSpec.upto fnExactChangesOfSpec)) fnExactChangesOfUptoCard

/-- THE SECOND FORM's CARD OF 'laws.FnExactChangesBack'. -/
def fnExactChangesBackUptoCard : Claim7 := { stood := { row := fnExactChangesBackUptoRow, standIns := [], harness := (true, "b4c0594a50940824c216d3897b1281ea6d6e97f303202b36c0dc5acb4ae7f1ae"), looks := false }, kinds := [], alts := [], laidByText := true, laidKinds := [.data, .pinned], laidTests := true, laidLooks := .later }
def FnExactChangesBackUptoCardSaid : Prop := Claim7.holds Tryd.pinned (.plain (OpenSpec.upto fnExactChangesBackSpec)) fnExactChangesBackUptoCard
end Rows
end Go.Proofs.YtianpeokdojkbaaDoor
