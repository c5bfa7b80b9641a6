/-
  DERIVED. GIVEN WITH THE SEED: THE CARDS: each row of YtmilojppcleccaaDoorRows.lean that lists a variable, with what it lists TIED to the program's text (the seventh form; the later family's looks); each row that meets fmt, with fmt's text TOLD by the authors' own Lean function (tested against real Go, not proved from fmt's source: count such statements apart). THE CARD IS WHAT COUNTS. Prove the row's statement (the work); the ties are given (YtmilojppcleccaaDoorTie.lean); close each card by the builder's one call (the guide's Derived/Test/ToyasCard.lean, 'card_holds'). Laid BY PROGRAM, IN A SANDBOX (cutbox-door.mjs). By AI agents, Wed Nov 11 2026. No macro, syntax, notation, axiom, sorry.
-/
import Derived.Test.YtmilojppcleccaaDoorRows
import GoSem.ClaimSeven
namespace Go.Proofs.YtmilojppcleccaaDoor
namespace Rows

/-- THE TIED CARD OF 'laws.FnExactChangesOk'. -/
def fnExactChangesOkCard : Claim7 := { stood := { row := fnExactChangesOkRow, standIns := [], harness := (true, "292e5dc4f1f64e757e2176cbf06deca96361bf0afc9a4d83d37e4899828e3e04"), looks := false }, kinds := [], alts := [], laidByText := true, laidKinds := [.data, .pinned], laidTests := true, laidLooks := .later }
def FnExactChangesOkCardSaid : Prop := Claim7.holds Tryd.pinned (.plain (OpenSpec.ofChange fnExactChangesOkSpec)) fnExactChangesOkCard

/-- THE TIED CARD OF 'laws.FnExactChangesPaths'. -/
def fnExactChangesPathsCard : Claim7 := { stood := { row := fnExactChangesPathsRow, standIns := [], harness := (true, "292e5dc4f1f64e757e2176cbf06deca96361bf0afc9a4d83d37e4899828e3e04"), looks := false }, kinds := [], alts := [], laidByText := true, laidKinds := [.data, .pinned], laidTests := true, laidLooks := .later }
def FnExactChangesPathsCardSaid : Prop := Claim7.holds Tryd.pinned (.plain (OpenSpec.ofChange fnExactChangesPathsSpec)) fnExactChangesPathsCard

/-- THE TIED CARD OF 'laws.FnExactChangesBack'. -/
def fnExactChangesBackCard : Claim7 := { stood := { row := fnExactChangesBackRow, standIns := [], harness := (true, "292e5dc4f1f64e757e2176cbf06deca96361bf0afc9a4d83d37e4899828e3e04"), looks := false }, kinds := [], alts := [], laidByText := true, laidKinds := [.data, .pinned], laidTests := true, laidLooks := .later }
def FnExactChangesBackCardSaid : Prop := Claim7.holds Tryd.pinned (.plain (OpenSpec.ofChange fnExactChangesBackSpec)) fnExactChangesBackCard

/-- THE TIED CARD OF 'laws.FnExactChangesOf'. -/
def fnExactChangesOfCard : Claim7 := { stood := { row := fnExactChangesOfRow, standIns := [], harness := (true, "292e5dc4f1f64e757e2176cbf06deca96361bf0afc9a4d83d37e4899828e3e04"), looks := false }, kinds := [], alts := [], laidByText := true, laidKinds := [.data, .pinned], laidTests := true, laidLooks := .later }
def FnExactChangesOfCardSaid : Prop := Claim7.holds Tryd.pinned (.plain (OpenSpec.ofChange fnExactChangesOfSpec)) fnExactChangesOfCard

/-- THE SECOND FORM's CARD OF 'laws.FnExactChangesOk'. -/
def fnExactChangesOkUptoCard : Claim7 := { stood := { row := fnExactChangesOkUptoRow, standIns := [], harness := (true, "292e5dc4f1f64e757e2176cbf06deca96361bf0afc9a4d83d37e4899828e3e04"), looks := false }, kinds := [], alts := [], laidByText := true, laidKinds := [.data, .pinned], laidTests := true, laidLooks := .later }
def FnExactChangesOkUptoCardSaid : Prop := Claim7.holds Tryd.pinned (.plain (OpenSpec.upto fnExactChangesOkSpec)) fnExactChangesOkUptoCard

/-- THE SECOND FORM's CARD OF 'laws.FnExactChangesPaths'. -/
def fnExactChangesPathsUptoCard : Claim7 := { stood := { row := fnExactChangesPathsUptoRow, standIns := [], harness := (true, "292e5dc4f1f64e757e2176cbf06deca96361bf0afc9a4d83d37e4899828e3e04"), looks := false }, kinds := [], alts := [], laidByText := true, laidKinds := [.data, .pinned], laidTests := true, laidLooks := .later }
def FnExactChangesPathsUptoCardSaid : Prop := Claim7.holds Tryd.pinned (.plain (OpenSpec.upto fnExactChangesPathsSpec)) fnExactChangesPathsUptoCard

/-- THE SECOND FORM's CARD OF 'laws.FnExactChangesBack'. -/
def fnExactChangesBackUptoCard : Claim7 := { stood := { row := fnExactChangesBackUptoRow, standIns := [], harness := (true, "292e5dc4f1f64e757e2176cbf06deca96361bf0afc9a4d83d37e4899828e3e04"), looks := false }, kinds := [], alts := [], laidByText := true, laidKinds := [.data, .pinned], laidTests := true, laidLooks := .later }
def FnExactChangesBackUptoCardSaid : Prop := Claim7.holds Tryd.pinned (.plain (OpenSpec.upto fnExactChangesBackSpec)) fnExactChangesBackUptoCard

/-- THE SECOND FORM's CARD OF 'laws.FnExactChangesOf'. -/
def fnExactChangesOfUptoCard : Claim7 := { stood := { row := fnExactChangesOfUptoRow, standIns := [], harness := (true, "292e5dc4f1f64e757e2176cbf06deca96361bf0afc9a4d83d37e4899828e3e04"), looks := false }, kinds := [], alts := [], laidByText := true, laidKinds := [.data, .pinned], laidTests := true, laidLooks := .later }
def FnExactChangesOfUptoCardSaid : Prop := Claim7.holds Tryd.pinned (.plain (OpenSpec.upto fnExactChangesOfSpec)) fnExactChangesOfUptoCard
end Rows
end Go.Proofs.YtmilojppcleccaaDoor
