/-
  DERIVED. GIVEN WITH THE SEED: THE CARDS: each row of YtflkcganpgjkkaaDoorRows.lean that lists a variable, with what it lists TIED to the program's text (the seventh form; the later family's looks); each row that meets fmt, with fmt's text TOLD by the authors' own Lean function (tested against real Go, not proved from fmt's source: count such statements apart). THE CARD IS WHAT COUNTS. Prove the row's statement (the work); the ties are given (YtflkcganpgjkkaaDoorTie.lean); close each card by the builder's one call (the guide's Derived/Test/ToyasCard.lean, 'card_holds'). Laid BY PROGRAM, IN A SANDBOX (cutbox-door.mjs). By AI agents, Wed Nov 11 2026. No macro, syntax, notation, axiom, sorry.
-/
import Derived.Test.YtflkcganpgjkkaaDoorRows
import GoSem.ClaimSeven
namespace Go.Proofs.YtflkcganpgjkkaaDoor
namespace Rows

/-- THE TIED CARD OF 'custodylaw32.TamperCommandsMatchSpec'. -/
def tamperCommandsMatchSpecCard : Claim7 := { stood := { row := tamperCommandsMatchSpecRow, standIns := [], harness := (true, "f7d2d85ea1d75f6d9c15d8ea8fbb386ee5639f4efa46d3c8ec559686b12910f0"), looks := false }, kinds := [], alts := [], laidByText := true, laidKinds := [.data], laidTests := true, laidLooks := .later }
def TamperCommandsMatchSpecCardSaid : Prop := Claim7.holds Tryd.pinned (.plain (OpenSpec.ofChange tamperCommandsMatchSpecSpec)) tamperCommandsMatchSpecCard

/-- THE TIED CARD OF 'custodylaw32.TamperNeverCalmsDown'. -/
def tamperNeverCalmsDownCard : Claim7 := { stood := { row := tamperNeverCalmsDownRow, standIns := [], harness := (true, "f7d2d85ea1d75f6d9c15d8ea8fbb386ee5639f4efa46d3c8ec559686b12910f0"), looks := false }, kinds := [], alts := [], laidByText := true, laidKinds := [.data], laidTests := true, laidLooks := .later }
def TamperNeverCalmsDownCardSaid : Prop := Claim7.holds Tryd.pinned (.plain (OpenSpec.ofChange tamperNeverCalmsDownSpec)) tamperNeverCalmsDownCard

/-- THE TIED CARD OF 'custodylaw32.TamperTimeAdds'. -/
def tamperTimeAddsCard : Claim7 := { stood := { row := tamperTimeAddsRow, standIns := [], harness := (true, "f7d2d85ea1d75f6d9c15d8ea8fbb386ee5639f4efa46d3c8ec559686b12910f0"), looks := false }, kinds := [], alts := [], laidByText := true, laidKinds := [.data], laidTests := true, laidLooks := .later }
def TamperTimeAddsCardSaid : Prop := Claim7.holds Tryd.pinned (.plain (OpenSpec.ofChange tamperTimeAddsSpec)) tamperTimeAddsCard

/-- THE TIED CARD OF 'custodylaw32.TamperMeshIsFatal'. -/
def tamperMeshIsFatalCard : Claim7 := { stood := { row := tamperMeshIsFatalRow, standIns := [], harness := (true, "f7d2d85ea1d75f6d9c15d8ea8fbb386ee5639f4efa46d3c8ec559686b12910f0"), looks := false }, kinds := [], alts := [], laidByText := true, laidKinds := [.data], laidTests := true, laidLooks := .later }
def TamperMeshIsFatalCardSaid : Prop := Claim7.holds Tryd.pinned (.plain (OpenSpec.ofChange tamperMeshIsFatalSpec)) tamperMeshIsFatalCard

/-- THE TIED CARD OF 'custodylaw32.TamperGlitchesAreTolerated'. -/
def tamperGlitchesAreToleratedCard : Claim7 := { stood := { row := tamperGlitchesAreToleratedRow, standIns := [], harness := (true, "f7d2d85ea1d75f6d9c15d8ea8fbb386ee5639f4efa46d3c8ec559686b12910f0"), looks := false }, kinds := [], alts := [], laidByText := true, laidKinds := [.data], laidTests := true, laidLooks := .later }
def TamperGlitchesAreToleratedCardSaid : Prop := Claim7.holds Tryd.pinned (.plain (OpenSpec.ofChange tamperGlitchesAreToleratedSpec)) tamperGlitchesAreToleratedCard

/-- THE TIED CARD OF 'custodylaw32.TamperModesAreOrdered'. -/
def tamperModesAreOrderedCard : Claim7 := { stood := { row := tamperModesAreOrderedRow, standIns := [], harness := (true, "f7d2d85ea1d75f6d9c15d8ea8fbb386ee5639f4efa46d3c8ec559686b12910f0"), looks := false }, kinds := [], alts := [], laidByText := true, laidKinds := [.data], laidTests := true, laidLooks := .later }
def TamperModesAreOrderedCardSaid : Prop := Claim7.holds Tryd.pinned (.plain (OpenSpec.ofChange tamperModesAreOrderedSpec)) tamperModesAreOrderedCard

/-- THE SECOND FORM's CARD OF 'custodylaw32.TamperCommandsMatchSpec'. -/
def tamperCommandsMatchSpecUptoCard : Claim7 := { stood := { row := tamperCommandsMatchSpecUptoRow, standIns := [], harness := (true, "f7d2d85ea1d75f6d9c15d8ea8fbb386ee5639f4efa46d3c8ec559686b12910f0"), looks := false }, kinds := [], alts := [], laidByText := true, laidKinds := [.data], laidTests := true, laidLooks := .later }
def TamperCommandsMatchSpecUptoCardSaid : Prop := Claim7.holds Tryd.pinned (.plain (OpenSpec.upto tamperCommandsMatchSpecSpec)) tamperCommandsMatchSpecUptoCard

/-- THE SECOND FORM's CARD OF 'custodylaw32.TamperNeverCalmsDown'. -/
def tamperNeverCalmsDownUptoCard : Claim7 := { stood := { row := tamperNeverCalmsDownUptoRow, standIns := [], harness := (true, "f7d2d85ea1d75f6d9c15d8ea8fbb386ee5639f4efa46d3c8ec559686b12910f0"), looks := false }, kinds := [], alts := [], laidByText := true, laidKinds := [.data], laidTests := true, laidLooks := .later }
def TamperNeverCalmsDownUptoCardSaid : Prop := Claim7.holds Tryd.pinned (.plain (OpenSpec.upto tamperNeverCalmsDownSpec)) tamperNeverCalmsDownUptoCard

/-- THE SECOND FORM's CARD OF 'custodylaw32.TamperTimeAdds'. -/
def tamperTimeAddsUptoCard : Claim7 := { stood := { row := tamperTimeAddsUptoRow, standIns := [], harness := (true, "f7d2d85ea1d75f6d9c15d8ea8fbb386ee5639f4efa46d3c8ec559686b12910f0"), looks := false }, kinds := [], alts := [], laidByText := true, laidKinds := [.data], laidTests := true, laidLooks := .later }
def TamperTimeAddsUptoCardSaid : Prop := Claim7.holds Tryd.pinned (.plain (OpenSpec.upto tamperTimeAddsSpec)) tamperTimeAddsUptoCard

/-- THE SECOND FORM's CARD OF 'custodylaw32.TamperMeshIsFatal'. -/
def tamperMeshIsFatalUptoCard : Claim7 := { stood := { row := tamperMeshIsFatalUptoRow, standIns := [], harness := (true, "f7d2d85ea1d75f6d9c15d8ea8fbb386ee5639f4efa46d3c8ec559686b12910f0"), looks := false }, kinds := [], alts := [], laidByText := true, laidKinds := [.data], laidTests := true, laidLooks := .later }
def TamperMeshIsFatalUptoCardSaid : Prop := Claim7.holds Tryd.pinned (.plain (OpenSpec.upto tamperMeshIsFatalSpec)) tamperMeshIsFatalUptoCard

/-- THE SECOND FORM's CARD OF 'custodylaw32.TamperGlitchesAreTolerated'. -/
def tamperGlitchesAreToleratedUptoCard : Claim7 := { stood := { row := tamperGlitchesAreToleratedUptoRow, standIns := [], harness := (true, "f7d2d85ea1d75f6d9c15d8ea8fbb386ee5639f4efa46d3c8ec559686b12910f0"), looks := false }, kinds := [], alts := [], laidByText := true, laidKinds := [.data], laidTests := true, laidLooks := .later }
def TamperGlitchesAreToleratedUptoCardSaid : Prop := Claim7.holds Tryd.pinned (.plain (OpenSpec.upto tamperGlitchesAreToleratedSpec)) tamperGlitchesAreToleratedUptoCard

/-- THE SECOND FORM's CARD OF 'custodylaw32.TamperModesAreOrdered'. -/
def tamperModesAreOrderedUptoCard : Claim7 := { stood := { row := tamperModesAreOrderedUptoRow, standIns := [], harness := (true, "f7d2d85ea1d75f6d9c15d8ea8fbb386ee5639f4efa46d3c8ec559686b12910f0"), looks := false }, kinds := [], alts := [], laidByText := true, laidKinds := [.data], laidTests := true, laidLooks := .later }
def TamperModesAreOrderedUptoCardSaid : Prop := Claim7.holds Tryd.pinned (.plain (OpenSpec.upto tamperModesAreOrderedSpec)) tamperModesAreOrderedUptoCard
end Rows
end Go.Proofs.YtflkcganpgjkkaaDoor
