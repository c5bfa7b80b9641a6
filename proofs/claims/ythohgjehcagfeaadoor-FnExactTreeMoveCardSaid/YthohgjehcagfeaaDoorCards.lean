/-
  DERIVED. GIVEN WITH THE SEED: THE CARDS: each row of YthohgjehcagfeaaDoorRows.lean that lists a variable, with what it lists TIED to the program's text (the seventh form; the later family's looks); each row that meets fmt, with fmt's text TOLD by the authors' own Lean function (tested against real Go, not proved from fmt's source: count such statements apart). THE CARD IS WHAT COUNTS. Prove the row's statement (the work); the ties are given (YthohgjehcagfeaaDoorTie.lean); close each card by the builder's one call (the guide's Derived/Test/ToyasCard.lean, 'card_holds'). Laid BY PROGRAM, IN A SANDBOX (cutbox-door.mjs). By AI agents, Wed Nov 11 2026. No macro, syntax, notation, axiom, sorry.
-/
import Derived.Test.YthohgjehcagfeaaDoorRows
import GoSem.ClaimSeven
namespace Go.Proofs.YthohgjehcagfeaaDoor
namespace Rows

/-- THE TIED CARD OF 'laws.FnExactTreeSet'. -/
def fnExactTreeSetCard : Claim7 := { stood := { row := fnExactTreeSetRow, standIns := [], harness := (true, "a3208534888ceb34956561579afe4fc3f6dbf16551e2bf1b82e87e3b629642e5"), looks := false }, kinds := [], alts := [], laidByText := true, laidKinds := [.data, .pinned], laidTests := true, laidLooks := .later }
def FnExactTreeSetCardSaid : Prop := Claim7.holds Tryd.pinned (.plain (OpenSpec.ofChange fnExactTreeSetSpec)) fnExactTreeSetCard

/-- THE TIED CARD OF 'laws.FnExactTreeMove'. -/
def fnExactTreeMoveCard : Claim7 := { stood := { row := fnExactTreeMoveRow, standIns := [], harness := (true, "a3208534888ceb34956561579afe4fc3f6dbf16551e2bf1b82e87e3b629642e5"), looks := false }, kinds := [], alts := [], laidByText := true, laidKinds := [.data, .pinned], laidTests := true, laidLooks := .later }
def FnExactTreeMoveCardSaid : Prop := Claim7.holds Tryd.pinned (.plain (OpenSpec.ofChange fnExactTreeMoveSpec)) fnExactTreeMoveCard

/-- THE SECOND FORM's CARD OF 'laws.FnExactTreeSet'. -/
def fnExactTreeSetUptoCard : Claim7 := { stood := { row := fnExactTreeSetUptoRow, standIns := [], harness := (true, "a3208534888ceb34956561579afe4fc3f6dbf16551e2bf1b82e87e3b629642e5"), looks := false }, kinds := [], alts := [], laidByText := true, laidKinds := [.data, .pinned], laidTests := true, laidLooks := .later }
def FnExactTreeSetUptoCardSaid : Prop := Claim7.holds Tryd.pinned (.plain (OpenSpec.upto fnExactTreeSetSpec)) fnExactTreeSetUptoCard

/-- THE SECOND FORM's CARD OF 'laws.FnExactTreeMove'. -/
def fnExactTreeMoveUptoCard : Claim7 := { stood := { row := fnExactTreeMoveUptoRow, standIns := [], harness := (true, "a3208534888ceb34956561579afe4fc3f6dbf16551e2bf1b82e87e3b629642e5"), looks := false }, kinds := [], alts := [], laidByText := true, laidKinds := [.data, .pinned], laidTests := true, laidLooks := .later }
def FnExactTreeMoveUptoCardSaid : Prop := Claim7.holds Tryd.pinned (.plain (OpenSpec.upto fnExactTreeMoveSpec)) fnExactTreeMoveUptoCard
end Rows
end Go.Proofs.YthohgjehcagfeaaDoor
