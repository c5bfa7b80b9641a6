/-
  DERIVED. GIVEN WITH THE SEED: THE CARDS: each row of YtocncjohpikfcaaDoorRows.lean that lists a variable, with what it lists TIED to the program's text (the seventh form; the later family's looks); each row that meets fmt, with fmt's text TOLD by the authors' own Lean function (tested against real Go, not proved from fmt's source: count such statements apart). THE CARD IS WHAT COUNTS. Prove the row's statement (the work); the ties are given (YtocncjohpikfcaaDoorTie.lean); close each card by the builder's one call (the guide's Derived/Test/ToyasCard.lean, 'card_holds'). Laid BY PROGRAM, IN A SANDBOX (cutbox-door.mjs). By AI agents, Wed Nov 11 2026. No macro, syntax, notation, axiom, sorry.
-/
import Derived.Test.YtocncjohpikfcaaDoorRows
import GoSem.ClaimSeven
namespace Go.Proofs.YtocncjohpikfcaaDoor
namespace Rows

/-- THE TIED CARD OF 'laws.FnExactRepoOk'. -/
def fnExactRepoOkCard : Claim7 := { stood := { row := fnExactRepoOkRow, standIns := [], harness := (true, "df33b613350fdb7bea63233bf64e1d8363bf76ef82bd4f23755f83420c6a82ae"), looks := false }, kinds := [], alts := [], laidByText := true, laidKinds := [.data, .pinned], laidTests := true, laidLooks := .later }
def FnExactRepoOkCardSaid : Prop := Claim7.holds Tryd.pinned (.plain (OpenSpec.ofChange fnExactRepoOkSpec)) fnExactRepoOkCard

/-- THE TIED CARD OF 'laws.FnExactRepoAt'. -/
def fnExactRepoAtCard : Claim7 := { stood := { row := fnExactRepoAtRow, standIns := [], harness := (true, "df33b613350fdb7bea63233bf64e1d8363bf76ef82bd4f23755f83420c6a82ae"), looks := false }, kinds := [], alts := [], laidByText := true, laidKinds := [.data, .pinned], laidTests := true, laidLooks := .later }
def FnExactRepoAtCardSaid : Prop := Claim7.holds Tryd.pinned (.plain (OpenSpec.ofChange fnExactRepoAtSpec)) fnExactRepoAtCard

/-- THE TIED CARD OF 'laws.FnExactAncIs'. -/
def fnExactAncIsCard : Claim7 := { stood := { row := fnExactAncIsRow, standIns := [], harness := (true, "df33b613350fdb7bea63233bf64e1d8363bf76ef82bd4f23755f83420c6a82ae"), looks := false }, kinds := [], alts := [], laidByText := true, laidKinds := [.data, .pinned], laidTests := true, laidLooks := .later }
def FnExactAncIsCardSaid : Prop := Claim7.holds Tryd.pinned (.plain (OpenSpec.ofChange fnExactAncIsSpec)) fnExactAncIsCard

/-- THE TIED CARD OF 'laws.FnExactAncLine'. -/
def fnExactAncLineCard : Claim7 := { stood := { row := fnExactAncLineRow, standIns := [], harness := (true, "df33b613350fdb7bea63233bf64e1d8363bf76ef82bd4f23755f83420c6a82ae"), looks := false }, kinds := [], alts := [], laidByText := true, laidKinds := [.data, .pinned], laidTests := true, laidLooks := .later }
def FnExactAncLineCardSaid : Prop := Claim7.holds Tryd.pinned (.plain (OpenSpec.ofChange fnExactAncLineSpec)) fnExactAncLineCard

/-- THE TIED CARD OF 'laws.FnExactRepoTree'. -/
def fnExactRepoTreeCard : Claim7 := { stood := { row := fnExactRepoTreeRow, standIns := [], harness := (true, "df33b613350fdb7bea63233bf64e1d8363bf76ef82bd4f23755f83420c6a82ae"), looks := false }, kinds := [], alts := [], laidByText := true, laidKinds := [.data, .pinned], laidTests := true, laidLooks := .later }
def FnExactRepoTreeCardSaid : Prop := Claim7.holds Tryd.pinned (.plain (OpenSpec.ofChange fnExactRepoTreeSpec)) fnExactRepoTreeCard

/-- THE TIED CARD OF 'laws.FnExactAncFar'. -/
def fnExactAncFarCard : Claim7 := { stood := { row := fnExactAncFarRow, standIns := [], harness := (true, "df33b613350fdb7bea63233bf64e1d8363bf76ef82bd4f23755f83420c6a82ae"), looks := false }, kinds := [], alts := [], laidByText := true, laidKinds := [.data, .pinned], laidTests := true, laidLooks := .later }
def FnExactAncFarCardSaid : Prop := Claim7.holds Tryd.pinned (.plain (OpenSpec.ofChange fnExactAncFarSpec)) fnExactAncFarCard

/-- THE TIED CARD OF 'laws.FnExactAncAll'. -/
def fnExactAncAllCard : Claim7 := { stood := { row := fnExactAncAllRow, standIns := [], harness := (true, "df33b613350fdb7bea63233bf64e1d8363bf76ef82bd4f23755f83420c6a82ae"), looks := false }, kinds := [], alts := [], laidByText := true, laidKinds := [.data, .pinned], laidTests := true, laidLooks := .later }
def FnExactAncAllCardSaid : Prop := Claim7.holds Tryd.pinned (.plain (OpenSpec.ofChange fnExactAncAllSpec)) fnExactAncAllCard

/-- THE TIED CARD OF 'laws.FnExactAncNew'. -/
def fnExactAncNewCard : Claim7 := { stood := { row := fnExactAncNewRow, standIns := [], harness := (true, "df33b613350fdb7bea63233bf64e1d8363bf76ef82bd4f23755f83420c6a82ae"), looks := false }, kinds := [], alts := [], laidByText := true, laidKinds := [.data, .pinned], laidTests := true, laidLooks := .later }
def FnExactAncNewCardSaid : Prop := Claim7.holds Tryd.pinned (.plain (OpenSpec.ofChange fnExactAncNewSpec)) fnExactAncNewCard

/-- THE TIED CARD OF 'laws.FnExactAncBases'. -/
def fnExactAncBasesCard : Claim7 := { stood := { row := fnExactAncBasesRow, standIns := [], harness := (true, "df33b613350fdb7bea63233bf64e1d8363bf76ef82bd4f23755f83420c6a82ae"), looks := false }, kinds := [], alts := [], laidByText := true, laidKinds := [.data, .pinned], laidTests := true, laidLooks := .later }
def FnExactAncBasesCardSaid : Prop := Claim7.holds Tryd.pinned (.plain (OpenSpec.ofChange fnExactAncBasesSpec)) fnExactAncBasesCard

/-- THE SECOND FORM's CARD OF 'laws.FnExactRepoOk'. -/
def fnExactRepoOkUptoCard : Claim7 := { stood := { row := fnExactRepoOkUptoRow, standIns := [], harness := (true, "df33b613350fdb7bea63233bf64e1d8363bf76ef82bd4f23755f83420c6a82ae"), looks := false }, kinds := [], alts := [], laidByText := true, laidKinds := [.data, .pinned], laidTests := true, laidLooks := .later }
def FnExactRepoOkUptoCardSaid : Prop := Claim7.holds Tryd.pinned (.plain (OpenSpec.upto fnExactRepoOkSpec)) fnExactRepoOkUptoCard

/-- THE SECOND FORM's CARD OF 'laws.FnExactRepoAt'. -/
def fnExactRepoAtUptoCard : Claim7 := { stood := { row := fnExactRepoAtUptoRow, standIns := [], harness := (true, "df33b613350fdb7bea63233bf64e1d8363bf76ef82bd4f23755f83420c6a82ae"), looks := false }, kinds := [], alts := [], laidByText := true, laidKinds := [.data, .pinned], laidTests := true, laidLooks := .later }
def FnExactRepoAtUptoCardSaid : Prop := Claim7.holds Tryd.pinned (.plain (OpenSpec.upto fnExactRepoAtSpec)) fnExactRepoAtUptoCard

/-- THE SECOND FORM's CARD OF 'laws.FnExactAncIs'. -/
def fnExactAncIsUptoCard : Claim7 := { stood := { row := fnExactAncIsUptoRow, standIns := [], harness := (true, "df33b613350fdb7bea63233bf64e1d8363bf76ef82bd4f23755f83420c6a82ae"), looks := false }, kinds := [], alts := [], laidByText := true, laidKinds := [.data, .pinned], laidTests := true, laidLooks := .later }
def FnExactAncIsUptoCardSaid : Prop := Claim7.holds Tryd.pinned (.plain (OpenSpec.upto fnExactAncIsSpec)) fnExactAncIsUptoCard

/-- THE SECOND FORM's CARD OF 'laws.FnExactAncLine'. -/
def fnExactAncLineUptoCard : Claim7 := { stood := { row := fnExactAncLineUptoRow, standIns := [], harness := (true, "df33b613350fdb7bea63233bf64e1d8363bf76ef82bd4f23755f83420c6a82ae"), looks := false }, kinds := [], alts := [], laidByText := true, laidKinds := [.data, .pinned], laidTests := true, laidLooks := .later }
def FnExactAncLineUptoCardSaid : Prop := Claim7.holds Tryd.pinned (.plain (OpenSpec.upto fnExactAncLineSpec)) fnExactAncLineUptoCard

/-- THE SECOND FORM's CARD OF 'laws.FnExactRepoTree'. -/
def fnExactRepoTreeUptoCard : Claim7 := { stood := { row := fnExactRepoTreeUptoRow, standIns := [], harness := (true, "df33b613350fdb7bea63233bf64e1d8363bf76ef82bd4f23755f83420c6a82ae"), looks := false }, kinds := [], alts := [], laidByText := true, laidKinds := [.data, .pinned], laidTests := true, laidLooks := .later }
def FnExactRepoTreeUptoCardSaid : Prop := Claim7.holds Tryd.pinned (.plain (OpenSpec.upto fnExactRepoTreeSpec)) fnExactRepoTreeUptoCard

/-- THE SECOND FORM's CARD OF 'laws.FnExactAncFar'. -/
def fnExactAncFarUptoCard : Claim7 := { stood := { row := fnExactAncFarUptoRow, standIns := [], harness := (true, "df33b613350fdb7bea63233bf64e1d8363bf76ef82bd4f23755f83420c6a82ae"), looks := false }, kinds := [], alts := [], laidByText := true, laidKinds := [.data, .pinned], laidTests := true, laidLooks := .later }
def FnExactAncFarUptoCardSaid : Prop := Claim7.holds Tryd.pinned (.plain (OpenSpec.upto fnExactAncFarSpec)) fnExactAncFarUptoCard

/-- THE SECOND FORM's CARD OF 'laws.FnExactAncAll'. -/
def fnExactAncAllUptoCard : Claim7 := { stood := { row := fnExactAncAllUptoRow, standIns := [], harness := (true, "df33b613350fdb7bea63233bf64e1d8363bf76ef82bd4f23755f83420c6a82ae"), looks := false }, kinds := [], alts := [], laidByText := true, laidKinds := [.data, .pinned], laidTests := true, laidLooks := .later }
def FnExactAncAllUptoCardSaid : Prop := Claim7.holds Tryd.pinned (.plain (OpenSpec.upto fnExactAncAllSpec)) fnExactAncAllUptoCard

/-- THE SECOND FORM's CARD OF 'laws.FnExactAncNew'. -/
def fnExactAncNewUptoCard : Claim7 := { stood := { row := fnExactAncNewUptoRow, standIns := [], harness := (true, "df33b613350fdb7bea63233bf64e1d8363bf76ef82bd4f23755f83420c6a82ae"), looks := false }, kinds := [], alts := [], laidByText := true, laidKinds := [.data, .pinned], laidTests := true, laidLooks := .later }
def FnExactAncNewUptoCardSaid : Prop := Claim7.holds Tryd.pinned (.plain (OpenSpec.upto fnExactAncNewSpec)) fnExactAncNewUptoCard

/-- THE SECOND FORM's CARD OF 'laws.FnExactAncBases'. -/
def fnExactAncBasesUptoCard : Claim7 := { stood := { row := fnExactAncBasesUptoRow, standIns := [], harness := (true, "df33b613350fdb7bea63233bf64e1d8363bf76ef82bd4f23755f83420c6a82ae"), looks := false }, kinds := [], alts := [], laidByText := true, laidKinds := [.data, .pinned], laidTests := true, laidLooks := .later }
def FnExactAncBasesUptoCardSaid : Prop := Claim7.holds Tryd.pinned (.plain (OpenSpec.upto fnExactAncBasesSpec)) fnExactAncBasesUptoCard
end Rows
end Go.Proofs.YtocncjohpikfcaaDoor
