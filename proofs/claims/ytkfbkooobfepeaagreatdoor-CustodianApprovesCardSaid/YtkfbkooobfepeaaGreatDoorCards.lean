/-
  DERIVED. GIVEN WITH THE SEED: THE CARDS: each row of YtkfbkooobfepeaaGreatDoorRows.lean that lists a variable, with what it lists TIED to the program's text (the seventh form; the later family's looks); each row that meets fmt, with fmt's text TOLD by the authors' own Lean function (tested against real Go, not proved from fmt's source: count such statements apart). THE CARD IS WHAT COUNTS. Prove the row's statement (the work); the ties are given (YtkfbkooobfepeaaGreatDoorTie.lean); close each card by the builder's one call (the guide's Derived/Test/ToyasCard.lean, 'card_holds'). Laid BY PROGRAM, IN A SANDBOX (cutbox-door.mjs). By AI agents, Wed Nov 11 2026. No macro, syntax, notation, axiom, sorry.
-/
import Derived.Test.YtkfbkooobfepeaaGreatDoorRows
import GoSem.ClaimSeven
namespace Go.Proofs.YtkfbkooobfepeaaGreatDoor
namespace Rows

/-- THE TIED CARD OF 'custodylaw30.CustodianApproves'. -/
def custodianApprovesCard : Claim7 := { stood := { row := custodianApprovesRow, standIns := [], harness := (true, "830ebec13bbc1b24ad479b35d56b3213d465cb9c03e2d3bcc0453287cd2da998"), looks := false }, kinds := [], alts := [], laidByText := true, laidKinds := [.data, .data], laidTests := true, laidLooks := .later }
def CustodianApprovesCardSaid : Prop := Claim7.holds Tryz.pinned (.plain (OpenSpec.ofChange custodianApprovesSpec)) custodianApprovesCard

/-- THE SECOND FORM's CARD OF 'custodylaw30.CustodianApproves'. -/
def custodianApprovesUptoCard : Claim7 := { stood := { row := custodianApprovesUptoRow, standIns := [], harness := (true, "830ebec13bbc1b24ad479b35d56b3213d465cb9c03e2d3bcc0453287cd2da998"), looks := false }, kinds := [], alts := [], laidByText := true, laidKinds := [.data, .data], laidTests := true, laidLooks := .later }
def CustodianApprovesUptoCardSaid : Prop := Claim7.holds Tryz.pinned (.plain (OpenSpec.upto custodianApprovesSpec)) custodianApprovesUptoCard
end Rows
end Go.Proofs.YtkfbkooobfepeaaGreatDoor
