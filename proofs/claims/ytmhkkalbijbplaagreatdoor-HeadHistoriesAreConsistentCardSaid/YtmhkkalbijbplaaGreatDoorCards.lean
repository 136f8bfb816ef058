/-
  DERIVED. GIVEN WITH THE SEED: THE CARDS: each row of YtmhkkalbijbplaaGreatDoorRows.lean that lists a variable, with what it lists TIED to the program's text (the seventh form; the later family's looks); each row that meets fmt, with fmt's text TOLD by the authors' own Lean function (tested against real Go, not proved from fmt's source: count such statements apart). THE CARD IS WHAT COUNTS. Prove the row's statement (the work); the ties are given (YtmhkkalbijbplaaGreatDoorTie.lean); close each card by the builder's one call (the guide's Derived/Test/ToyasCard.lean, 'card_holds'). Laid BY PROGRAM, IN A SANDBOX (cutbox-door.mjs). By AI agents, Wed Nov 11 2026. No macro, syntax, notation, axiom, sorry.
-/
import Derived.Test.YtmhkkalbijbplaaGreatDoorRows
import GoSem.ClaimSeven
namespace Go.Proofs.YtmhkkalbijbplaaGreatDoor
namespace Rows

/-- THE TIED CARD OF 'custodylaw41.HeadMakeMatchesSpec'. -/
def headMakeMatchesSpecCard : Claim7 := { stood := { row := headMakeMatchesSpecRow, standIns := [], harness := (true, "d8dbe1f20cd6aafc9b01d6a01b3f716c2b49dcc1d90f013f21c37fd3ee0c36d0"), looks := false }, kinds := [], alts := [], laidByText := true, laidKinds := [.data, .data], laidTests := true, laidLooks := .later }
def HeadMakeMatchesSpecCardSaid : Prop := Claim7.holds Tryz.pinned (.plain (OpenSpec.ofChange headMakeMatchesSpecSpec)) headMakeMatchesSpecCard

/-- THE TIED CARD OF 'custodylaw41.HeadVerifyMatchesSpec'. -/
def headVerifyMatchesSpecCard : Claim7 := { stood := { row := headVerifyMatchesSpecRow, standIns := [], harness := (true, "d8dbe1f20cd6aafc9b01d6a01b3f716c2b49dcc1d90f013f21c37fd3ee0c36d0"), looks := false }, kinds := [], alts := [], laidByText := true, laidKinds := [.data, .data], laidTests := true, laidLooks := .later }
def HeadVerifyMatchesSpecCardSaid : Prop := Claim7.holds Tryz.pinned (.plain (OpenSpec.ofChange headVerifyMatchesSpecSpec)) headVerifyMatchesSpecCard

/-- THE TIED CARD OF 'custodylaw41.HeadConsistentMatchesSpec'. -/
def headConsistentMatchesSpecCard : Claim7 := { stood := { row := headConsistentMatchesSpecRow, standIns := [], harness := (true, "d8dbe1f20cd6aafc9b01d6a01b3f716c2b49dcc1d90f013f21c37fd3ee0c36d0"), looks := false }, kinds := [], alts := [], laidByText := true, laidKinds := [.data, .data], laidTests := true, laidLooks := .later }
def HeadConsistentMatchesSpecCardSaid : Prop := Claim7.holds Tryz.pinned (.plain (OpenSpec.ofChange headConsistentMatchesSpecSpec)) headConsistentMatchesSpecCard

/-- THE TIED CARD OF 'custodylaw41.HeadEncodingMatchesSpec'. -/
def headEncodingMatchesSpecCard : Claim7 := { stood := { row := headEncodingMatchesSpecRow, standIns := [], harness := (true, "d8dbe1f20cd6aafc9b01d6a01b3f716c2b49dcc1d90f013f21c37fd3ee0c36d0"), looks := false }, kinds := [], alts := [], laidByText := true, laidKinds := [.data, .data], laidTests := true, laidLooks := .later }
def HeadEncodingMatchesSpecCardSaid : Prop := Claim7.holds Tryz.pinned (.plain (OpenSpec.ofChange headEncodingMatchesSpecSpec)) headEncodingMatchesSpecCard

/-- THE TIED CARD OF 'custodylaw41.HeadSignaturesAreAccepted'. -/
def headSignaturesAreAcceptedCard : Claim7 := { stood := { row := headSignaturesAreAcceptedRow, standIns := [], harness := (true, "d8dbe1f20cd6aafc9b01d6a01b3f716c2b49dcc1d90f013f21c37fd3ee0c36d0"), looks := false }, kinds := [], alts := [], laidByText := true, laidKinds := [.data, .data], laidTests := true, laidLooks := .later }
def HeadSignaturesAreAcceptedCardSaid : Prop := Claim7.holds Tryz.pinned (.plain (OpenSpec.ofChange headSignaturesAreAcceptedSpec)) headSignaturesAreAcceptedCard

/-- THE TIED CARD OF 'custodylaw41.HeadHistoriesAreConsistent'. -/
def headHistoriesAreConsistentCard : Claim7 := { stood := { row := headHistoriesAreConsistentRow, standIns := [], harness := (true, "d8dbe1f20cd6aafc9b01d6a01b3f716c2b49dcc1d90f013f21c37fd3ee0c36d0"), looks := false }, kinds := [], alts := [], laidByText := true, laidKinds := [.data, .data], laidTests := true, laidLooks := .later }
def HeadHistoriesAreConsistentCardSaid : Prop := Claim7.holds Tryz.pinned (.plain (OpenSpec.ofChange headHistoriesAreConsistentSpec)) headHistoriesAreConsistentCard

/-- THE SECOND FORM's CARD OF 'custodylaw41.HeadMakeMatchesSpec'. -/
def headMakeMatchesSpecUptoCard : Claim7 := { stood := { row := headMakeMatchesSpecUptoRow, standIns := [], harness := (true, "d8dbe1f20cd6aafc9b01d6a01b3f716c2b49dcc1d90f013f21c37fd3ee0c36d0"), looks := false }, kinds := [], alts := [], laidByText := true, laidKinds := [.data, .data], laidTests := true, laidLooks := .later }
def HeadMakeMatchesSpecUptoCardSaid : Prop := Claim7.holds Tryz.pinned (.plain (OpenSpec.upto headMakeMatchesSpecSpec)) headMakeMatchesSpecUptoCard

/-- THE SECOND FORM's CARD OF 'custodylaw41.HeadVerifyMatchesSpec'. -/
def headVerifyMatchesSpecUptoCard : Claim7 := { stood := { row := headVerifyMatchesSpecUptoRow, standIns := [], harness := (true, "d8dbe1f20cd6aafc9b01d6a01b3f716c2b49dcc1d90f013f21c37fd3ee0c36d0"), looks := false }, kinds := [], alts := [], laidByText := true, laidKinds := [.data, .data], laidTests := true, laidLooks := .later }
def HeadVerifyMatchesSpecUptoCardSaid : Prop := Claim7.holds Tryz.pinned (.plain (OpenSpec.upto headVerifyMatchesSpecSpec)) headVerifyMatchesSpecUptoCard

/-- THE SECOND FORM's CARD OF 'custodylaw41.HeadConsistentMatchesSpec'. -/
def headConsistentMatchesSpecUptoCard : Claim7 := { stood := { row := headConsistentMatchesSpecUptoRow, standIns := [], harness := (true, "d8dbe1f20cd6aafc9b01d6a01b3f716c2b49dcc1d90f013f21c37fd3ee0c36d0"), looks := false }, kinds := [], alts := [], laidByText := true, laidKinds := [.data, .data], laidTests := true, laidLooks := .later }
def HeadConsistentMatchesSpecUptoCardSaid : Prop := Claim7.holds Tryz.pinned (.plain (OpenSpec.upto headConsistentMatchesSpecSpec)) headConsistentMatchesSpecUptoCard

/-- THE SECOND FORM's CARD OF 'custodylaw41.HeadEncodingMatchesSpec'. -/
def headEncodingMatchesSpecUptoCard : Claim7 := { stood := { row := headEncodingMatchesSpecUptoRow, standIns := [], harness := (true, "d8dbe1f20cd6aafc9b01d6a01b3f716c2b49dcc1d90f013f21c37fd3ee0c36d0"), looks := false }, kinds := [], alts := [], laidByText := true, laidKinds := [.data, .data], laidTests := true, laidLooks := .later }
def HeadEncodingMatchesSpecUptoCardSaid : Prop := Claim7.holds Tryz.pinned (.plain (OpenSpec.upto headEncodingMatchesSpecSpec)) headEncodingMatchesSpecUptoCard

/-- THE SECOND FORM's CARD OF 'custodylaw41.HeadSignaturesAreAccepted'. -/
def headSignaturesAreAcceptedUptoCard : Claim7 := { stood := { row := headSignaturesAreAcceptedUptoRow, standIns := [], harness := (true, "d8dbe1f20cd6aafc9b01d6a01b3f716c2b49dcc1d90f013f21c37fd3ee0c36d0"), looks := false }, kinds := [], alts := [], laidByText := true, laidKinds := [.data, .data], laidTests := true, laidLooks := .later }
def HeadSignaturesAreAcceptedUptoCardSaid : Prop := Claim7.holds Tryz.pinned (.plain (OpenSpec.upto headSignaturesAreAcceptedSpec)) headSignaturesAreAcceptedUptoCard

/-- THE SECOND FORM's CARD OF 'custodylaw41.HeadHistoriesAreConsistent'. -/
def headHistoriesAreConsistentUptoCard : Claim7 := { stood := { row := headHistoriesAreConsistentUptoRow, standIns := [], harness := (true, "d8dbe1f20cd6aafc9b01d6a01b3f716c2b49dcc1d90f013f21c37fd3ee0c36d0"), looks := false }, kinds := [], alts := [], laidByText := true, laidKinds := [.data, .data], laidTests := true, laidLooks := .later }
def HeadHistoriesAreConsistentUptoCardSaid : Prop := Claim7.holds Tryz.pinned (.plain (OpenSpec.upto headHistoriesAreConsistentSpec)) headHistoriesAreConsistentUptoCard
end Rows
end Go.Proofs.YtmhkkalbijbplaaGreatDoor
