/-
  DERIVED. GIVEN WITH THE SEED: THE CARDS: each row of YtifeflneodmmlaaDoorRows.lean that lists a variable, with what it lists TIED to the program's text (the seventh form; the later family's looks); each row that meets fmt, with fmt's text TOLD by the authors' own Lean function (tested against real Go, not proved from fmt's source: count such statements apart). THE CARD IS WHAT COUNTS. Prove the row's statement (the work); the ties are given (YtifeflneodmmlaaDoorTie.lean); close each card by the builder's one call (the guide's Derived/Test/ToyasCard.lean, 'card_holds'). Laid BY PROGRAM, IN A SANDBOX (cutbox-door.mjs). By AI agents, Wed Nov 11 2026. No macro, syntax, notation, axiom, sorry.
-/
import Derived.Test.YtifeflneodmmlaaDoorRows
import GoSem.ClaimSeven
namespace Go.Proofs.YtifeflneodmmlaaDoor
namespace Rows

/-- THE TIED CARD OF 'laws.FnExactAncBases'. -/
def fnExactAncBasesCard : Claim7 := { stood := { row := fnExactAncBasesRow, standIns := [], harness := (true, "cf984a839edba10ecf1ef62aac76ac07b55dfcb29c3502f5852ee8a00a55352e"), looks := false }, kinds := [], alts := [], laidByText := true, laidKinds := [.data, .pinned], laidTests := true, laidLooks := .later }
def FnExactAncBasesCardSaid : Prop := Claim7.holds Tryd.pinned (.plain (OpenSpec.ofChange fnExactAncBasesSpec)) fnExactAncBasesCard

/-- THE SECOND FORM's CARD OF 'laws.FnExactAncBases'. -/
def fnExactAncBasesUptoCard : Claim7 := { stood := { row := fnExactAncBasesUptoRow, standIns := [], harness := (true, "cf984a839edba10ecf1ef62aac76ac07b55dfcb29c3502f5852ee8a00a55352e"), looks := false }, kinds := [], alts := [], laidByText := true, laidKinds := [.data, .pinned], laidTests := true, laidLooks := .later }
def FnExactAncBasesUptoCardSaid : Prop := Claim7.holds Tryd.pinned (.plain (OpenSpec.upto fnExactAncBasesSpec)) fnExactAncBasesUptoCard
end Rows
end Go.Proofs.YtifeflneodmmlaaDoor
