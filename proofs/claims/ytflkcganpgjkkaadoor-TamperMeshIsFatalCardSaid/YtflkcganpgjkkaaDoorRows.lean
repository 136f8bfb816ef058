/-
  NARROWER THAN 'FOR EVERY INPUT', by the rows' own cells (each row's printed sentence says how): TamperCommandsMatchSpec: laid · TamperNeverCalmsDown: laid · TamperTimeAdds: laid · TamperMeshIsFatal: laid · TamperGlitchesAreTolerated: laid · TamperModesAreOrdered: laid.
  DERIVED. THE GIVEN ROWS OF THIS SEAT. 6 by the template 'for every input the law returns true; each argument reads behind the call as it read before'; 0 by the template 'total and deterministic' (their statements: YtflkcganpgjkkaaDoorTotals.lean).
  GIVEN WITH THE SEED: the statements are not yours to turn. If you find one false, say at which input.
  Laid BY PROGRAM, IN A SANDBOX (cutbox-rows.mjs): the forced cells as the released guide's own fill.sh prints them over the translation 8eb712bb17238901… (all of the seat's roots in one cut). By AI agents, Wed Nov 11 2026. No macro, syntax, notation, axiom, sorry.
-/
import Derived.Test.YtflkcganpgjkkaaDoorChecked
import GoSem.Claim
import GoSem.ClaimJoined
import GoSem.ClaimMapViews
import Derived.JoinedTies
import Derived.KernelRfl
namespace Go.Proofs.YtflkcganpgjkkaaDoor
/- THE CELL 'sum', in the pinned program and in every row, IS THE sha256 OF THE DUMP (.gsa) THAT YtflkcganpgjkkaaDoorProg.lean LOADS. Nothing in Lean hashes anything: it is a label: what it is worth is what the hold of that sum in a sandbox is worth. -/
noncomputable def Tryd.pinned : Pinned := { name := "ytflkcganpgjkkaadoor", sum := "8eb712bb172389010f26a61d454881ae6ce54b94e1ebc50b4dae830c7e230b10", checked := Tryd.checked }
namespace Rows
def none {H : Type} : Left H := { results := [], args := [] }

/- WHAT THE LISTED PACKAGE-LEVEL VARIABLES READ AS WHEN THE CALL BEGINS. Each datum BY PROGRAM (the guide's laid-datum.mjs) off the statement by which the dump's own 'gosem.cut.vars' lays the variable. In a bare row this is a premise. The card (YtflkcganpgjkkaaDoorCards.lean) ties it to the program's text. -/
def laid_custody_tamper_sensors {H : Type} : DataW H := .agg [.agg [.lit (.int .i64 (-9223372036854775808)), .lit (.int .i64 1), .lit (.int .i64 0)], .agg [.lit (.int .i64 (-9223372036854775808)), .lit (.int .i64 10), .lit (.int .i64 3)], .agg [.lit (.int .i64 (-100)), .lit (.int .i64 100), .lit (.int .i64 1)], .agg [.lit (.int .i64 (-40)), .lit (.int .i64 85), .lit (.int .i64 1)]]

/-- 'custodylaw32.TamperCommandsMatchSpec': WHATEVER THE INPUT: true; the input reads as it did. -/
def tamperCommandsMatchSpecSpec : ChangeSpec := { name := "tamperCommandsMatchSpec", fn := fun _ => fun
  | [d1, d2, d3] => { results := [.lit (.bool true)], args := [d1, d2, d3] }
  | _ => none }
def tamperCommandsMatchSpecRow : OpenClaim := { program := "ytflkcganpgjkkaadoor", sum := "8eb712bb172389010f26a61d454881ae6ce54b94e1ebc50b4dae830c7e230b10", func := "custody/custodylaw32.TamperCommandsMatchSpec", spec := "tamperCommandsMatchSpec", unfollowed := true, recurses := true, named := ["custody/tamper.sensors"], apart := false, laid := [("custody/tamper.sensors", laid_custody_tamper_sensors)] }
def TamperCommandsMatchSpecSaid : Prop := tamperCommandsMatchSpecRow.holds Tryd.pinned (OpenSpec.ofChange tamperCommandsMatchSpecSpec)

/-- ITS FALSE NEIGHBOUR: 'it returns false'. Refute it at one input. -/
def tamperCommandsMatchSpecWrong : ChangeSpec := { name := "tamperCommandsMatchSpec", fn := fun _ => fun
  | [d1, d2, d3] => { results := [.lit (.bool false)], args := [d1, d2, d3] }
  | _ => none }
def TamperCommandsMatchSpecWrongFalsely : Prop := tamperCommandsMatchSpecRow.holds Tryd.pinned (OpenSpec.ofChange tamperCommandsMatchSpecWrong)

/-- 'custodylaw32.TamperNeverCalmsDown': WHATEVER THE INPUT: true; the input reads as it did. -/
def tamperNeverCalmsDownSpec : ChangeSpec := { name := "tamperNeverCalmsDown", fn := fun _ => fun
  | [d1, d2, d3] => { results := [.lit (.bool true)], args := [d1, d2, d3] }
  | _ => none }
def tamperNeverCalmsDownRow : OpenClaim := { program := "ytflkcganpgjkkaadoor", sum := "8eb712bb172389010f26a61d454881ae6ce54b94e1ebc50b4dae830c7e230b10", func := "custody/custodylaw32.TamperNeverCalmsDown", spec := "tamperNeverCalmsDown", unfollowed := true, recurses := true, named := ["custody/tamper.sensors"], apart := false, laid := [("custody/tamper.sensors", laid_custody_tamper_sensors)] }
def TamperNeverCalmsDownSaid : Prop := tamperNeverCalmsDownRow.holds Tryd.pinned (OpenSpec.ofChange tamperNeverCalmsDownSpec)

/-- ITS FALSE NEIGHBOUR: 'it returns false'. Refute it at one input. -/
def tamperNeverCalmsDownWrong : ChangeSpec := { name := "tamperNeverCalmsDown", fn := fun _ => fun
  | [d1, d2, d3] => { results := [.lit (.bool false)], args := [d1, d2, d3] }
  | _ => none }
def TamperNeverCalmsDownWrongFalsely : Prop := tamperNeverCalmsDownRow.holds Tryd.pinned (OpenSpec.ofChange tamperNeverCalmsDownWrong)

/-- 'custodylaw32.TamperTimeAdds': WHATEVER THE INPUT: true; the input reads as it did. -/
def tamperTimeAddsSpec : ChangeSpec := { name := "tamperTimeAdds", fn := fun _ => fun
  | [d1, d2, d3] => { results := [.lit (.bool true)], args := [d1, d2, d3] }
  | _ => none }
def tamperTimeAddsRow : OpenClaim := { program := "ytflkcganpgjkkaadoor", sum := "8eb712bb172389010f26a61d454881ae6ce54b94e1ebc50b4dae830c7e230b10", func := "custody/custodylaw32.TamperTimeAdds", spec := "tamperTimeAdds", unfollowed := true, recurses := true, named := ["custody/tamper.sensors"], apart := false, laid := [("custody/tamper.sensors", laid_custody_tamper_sensors)] }
def TamperTimeAddsSaid : Prop := tamperTimeAddsRow.holds Tryd.pinned (OpenSpec.ofChange tamperTimeAddsSpec)

/-- ITS FALSE NEIGHBOUR: 'it returns false'. Refute it at one input. -/
def tamperTimeAddsWrong : ChangeSpec := { name := "tamperTimeAdds", fn := fun _ => fun
  | [d1, d2, d3] => { results := [.lit (.bool false)], args := [d1, d2, d3] }
  | _ => none }
def TamperTimeAddsWrongFalsely : Prop := tamperTimeAddsRow.holds Tryd.pinned (OpenSpec.ofChange tamperTimeAddsWrong)

/-- 'custodylaw32.TamperMeshIsFatal': WHATEVER THE INPUT: true; the input reads as it did. -/
def tamperMeshIsFatalSpec : ChangeSpec := { name := "tamperMeshIsFatal", fn := fun _ => fun
  | [d1, d2, d3] => { results := [.lit (.bool true)], args := [d1, d2, d3] }
  | _ => none }
def tamperMeshIsFatalRow : OpenClaim := { program := "ytflkcganpgjkkaadoor", sum := "8eb712bb172389010f26a61d454881ae6ce54b94e1ebc50b4dae830c7e230b10", func := "custody/custodylaw32.TamperMeshIsFatal", spec := "tamperMeshIsFatal", unfollowed := true, recurses := true, named := ["custody/tamper.sensors"], apart := false, laid := [("custody/tamper.sensors", laid_custody_tamper_sensors)] }
def TamperMeshIsFatalSaid : Prop := tamperMeshIsFatalRow.holds Tryd.pinned (OpenSpec.ofChange tamperMeshIsFatalSpec)

/-- ITS FALSE NEIGHBOUR: 'it returns false'. Refute it at one input. -/
def tamperMeshIsFatalWrong : ChangeSpec := { name := "tamperMeshIsFatal", fn := fun _ => fun
  | [d1, d2, d3] => { results := [.lit (.bool false)], args := [d1, d2, d3] }
  | _ => none }
def TamperMeshIsFatalWrongFalsely : Prop := tamperMeshIsFatalRow.holds Tryd.pinned (OpenSpec.ofChange tamperMeshIsFatalWrong)

/-- 'custodylaw32.TamperGlitchesAreTolerated': WHATEVER THE INPUT: true; the input reads as it did. -/
def tamperGlitchesAreToleratedSpec : ChangeSpec := { name := "tamperGlitchesAreTolerated", fn := fun _ => fun
  | [d1, d2] => { results := [.lit (.bool true)], args := [d1, d2] }
  | _ => none }
def tamperGlitchesAreToleratedRow : OpenClaim := { program := "ytflkcganpgjkkaadoor", sum := "8eb712bb172389010f26a61d454881ae6ce54b94e1ebc50b4dae830c7e230b10", func := "custody/custodylaw32.TamperGlitchesAreTolerated", spec := "tamperGlitchesAreTolerated", unfollowed := true, recurses := true, named := ["custody/tamper.sensors"], apart := false, laid := [("custody/tamper.sensors", laid_custody_tamper_sensors)] }
def TamperGlitchesAreToleratedSaid : Prop := tamperGlitchesAreToleratedRow.holds Tryd.pinned (OpenSpec.ofChange tamperGlitchesAreToleratedSpec)

/-- ITS FALSE NEIGHBOUR: 'it returns false'. Refute it at one input. -/
def tamperGlitchesAreToleratedWrong : ChangeSpec := { name := "tamperGlitchesAreTolerated", fn := fun _ => fun
  | [d1, d2] => { results := [.lit (.bool false)], args := [d1, d2] }
  | _ => none }
def TamperGlitchesAreToleratedWrongFalsely : Prop := tamperGlitchesAreToleratedRow.holds Tryd.pinned (OpenSpec.ofChange tamperGlitchesAreToleratedWrong)

/-- 'custodylaw32.TamperModesAreOrdered': WHATEVER THE INPUT: true; the input reads as it did. -/
def tamperModesAreOrderedSpec : ChangeSpec := { name := "tamperModesAreOrdered", fn := fun _ => fun
  | [d1, d2] => { results := [.lit (.bool true)], args := [d1, d2] }
  | _ => none }
def tamperModesAreOrderedRow : OpenClaim := { program := "ytflkcganpgjkkaadoor", sum := "8eb712bb172389010f26a61d454881ae6ce54b94e1ebc50b4dae830c7e230b10", func := "custody/custodylaw32.TamperModesAreOrdered", spec := "tamperModesAreOrdered", unfollowed := true, recurses := true, named := ["custody/tamper.sensors"], apart := false, laid := [("custody/tamper.sensors", laid_custody_tamper_sensors)] }
def TamperModesAreOrderedSaid : Prop := tamperModesAreOrderedRow.holds Tryd.pinned (OpenSpec.ofChange tamperModesAreOrderedSpec)

/-- ITS FALSE NEIGHBOUR: 'it returns false'. Refute it at one input. -/
def tamperModesAreOrderedWrong : ChangeSpec := { name := "tamperModesAreOrdered", fn := fun _ => fun
  | [d1, d2] => { results := [.lit (.bool false)], args := [d1, d2] }
  | _ => none }
def TamperModesAreOrderedWrongFalsely : Prop := tamperModesAreOrderedRow.holds Tryd.pinned (OpenSpec.ofChange tamperModesAreOrderedWrong)

/- THE SECOND FORM. 'bulk': how many values and letters a reading holds, each counted each time it is reached (what is shared counts as often as it is met; a slice's spare places count too). A statement '..UptoSaid' is the law's where the arguments, and the package variables that the reading takes, are together of bulk at most 1048576: NARROWER than '..Said'. Prove '..Said' where nothing that the law and all that it calls make is longer than what came in: it says more and counts as full. Else prove '..UptoSaid'. A law counts once. -/
mutual
def uptoBulk {H : Type} : DataW H → Nat
  | .lit (.string bytes) => bytes.length + 1
  | .lit _ => 1
  | .nil => 1
  | .ptr d => uptoBulk d + 1
  | .slice elems spare => uptoBulkAll elems + uptoBulkAll spare + 1
  | .agg parts => uptoBulkAll parts + 1
  | .iface _ d => uptoBulk d + 1
  | .map entries => uptoBulkEntries entries + 1
  | .held _ => 1
def uptoBulkAll {H : Type} : List (DataW H) → Nat
  | [] => 0
  | d :: r => uptoBulk d + uptoBulkAll r
def uptoBulkEntries {H : Type} : List (Lit × DataW H) → Nat
  | [] => 0
  | x :: r => uptoBulkEntry x + uptoBulkEntries r
def uptoBulkEntry {H : Type} : Lit × DataW H → Nat
  | (.string bytes, d) => bytes.length + uptoBulk d + 1
  | (_, d) => uptoBulk d + 1
 end
def uptoSmall : (H : Type) → List (DataW H) → Bool := fun _ ds => decide (uptoBulkAll ds ≤ 1048576)
def OpenSpec.upto (s : _root_.Go.ChangeSpec) : _root_.Go.OpenSpec := { _root_.Go.OpenSpec.ofChange s with cond := some uptoSmall }

/-- 'custodylaw32.TamperCommandsMatchSpec', WHERE WHAT IT READS IS OF BULK AT MOST 1048576: true; the input reads as it did. -/
def tamperCommandsMatchSpecUptoRow : OpenClaim := { program := "ytflkcganpgjkkaadoor", sum := "8eb712bb172389010f26a61d454881ae6ce54b94e1ebc50b4dae830c7e230b10", func := "custody/custodylaw32.TamperCommandsMatchSpec", spec := "tamperCommandsMatchSpec", unfollowed := true, recurses := true, named := ["custody/tamper.sensors"], apart := false, laid := [("custody/tamper.sensors", laid_custody_tamper_sensors)], narrowed := true }
def TamperCommandsMatchSpecUptoSaid : Prop := tamperCommandsMatchSpecUptoRow.holds Tryd.pinned (OpenSpec.upto tamperCommandsMatchSpecSpec)

/-- 'custodylaw32.TamperNeverCalmsDown', WHERE WHAT IT READS IS OF BULK AT MOST 1048576: true; the input reads as it did. -/
def tamperNeverCalmsDownUptoRow : OpenClaim := { program := "ytflkcganpgjkkaadoor", sum := "8eb712bb172389010f26a61d454881ae6ce54b94e1ebc50b4dae830c7e230b10", func := "custody/custodylaw32.TamperNeverCalmsDown", spec := "tamperNeverCalmsDown", unfollowed := true, recurses := true, named := ["custody/tamper.sensors"], apart := false, laid := [("custody/tamper.sensors", laid_custody_tamper_sensors)], narrowed := true }
def TamperNeverCalmsDownUptoSaid : Prop := tamperNeverCalmsDownUptoRow.holds Tryd.pinned (OpenSpec.upto tamperNeverCalmsDownSpec)

/-- 'custodylaw32.TamperTimeAdds', WHERE WHAT IT READS IS OF BULK AT MOST 1048576: true; the input reads as it did. -/
def tamperTimeAddsUptoRow : OpenClaim := { program := "ytflkcganpgjkkaadoor", sum := "8eb712bb172389010f26a61d454881ae6ce54b94e1ebc50b4dae830c7e230b10", func := "custody/custodylaw32.TamperTimeAdds", spec := "tamperTimeAdds", unfollowed := true, recurses := true, named := ["custody/tamper.sensors"], apart := false, laid := [("custody/tamper.sensors", laid_custody_tamper_sensors)], narrowed := true }
def TamperTimeAddsUptoSaid : Prop := tamperTimeAddsUptoRow.holds Tryd.pinned (OpenSpec.upto tamperTimeAddsSpec)

/-- 'custodylaw32.TamperMeshIsFatal', WHERE WHAT IT READS IS OF BULK AT MOST 1048576: true; the input reads as it did. -/
def tamperMeshIsFatalUptoRow : OpenClaim := { program := "ytflkcganpgjkkaadoor", sum := "8eb712bb172389010f26a61d454881ae6ce54b94e1ebc50b4dae830c7e230b10", func := "custody/custodylaw32.TamperMeshIsFatal", spec := "tamperMeshIsFatal", unfollowed := true, recurses := true, named := ["custody/tamper.sensors"], apart := false, laid := [("custody/tamper.sensors", laid_custody_tamper_sensors)], narrowed := true }
def TamperMeshIsFatalUptoSaid : Prop := tamperMeshIsFatalUptoRow.holds Tryd.pinned (OpenSpec.upto tamperMeshIsFatalSpec)

/-- 'custodylaw32.TamperGlitchesAreTolerated', WHERE WHAT IT READS IS OF BULK AT MOST 1048576: true; the input reads as it did. -/
def tamperGlitchesAreToleratedUptoRow : OpenClaim := { program := "ytflkcganpgjkkaadoor", sum := "8eb712bb172389010f26a61d454881ae6ce54b94e1ebc50b4dae830c7e230b10", func := "custody/custodylaw32.TamperGlitchesAreTolerated", spec := "tamperGlitchesAreTolerated", unfollowed := true, recurses := true, named := ["custody/tamper.sensors"], apart := false, laid := [("custody/tamper.sensors", laid_custody_tamper_sensors)], narrowed := true }
def TamperGlitchesAreToleratedUptoSaid : Prop := tamperGlitchesAreToleratedUptoRow.holds Tryd.pinned (OpenSpec.upto tamperGlitchesAreToleratedSpec)

/-- 'custodylaw32.TamperModesAreOrdered', WHERE WHAT IT READS IS OF BULK AT MOST 1048576: true; the input reads as it did. -/
def tamperModesAreOrderedUptoRow : OpenClaim := { program := "ytflkcganpgjkkaadoor", sum := "8eb712bb172389010f26a61d454881ae6ce54b94e1ebc50b4dae830c7e230b10", func := "custody/custodylaw32.TamperModesAreOrdered", spec := "tamperModesAreOrdered", unfollowed := true, recurses := true, named := ["custody/tamper.sensors"], apart := false, laid := [("custody/tamper.sensors", laid_custody_tamper_sensors)], narrowed := true }
def TamperModesAreOrderedUptoSaid : Prop := tamperModesAreOrderedUptoRow.holds Tryd.pinned (OpenSpec.upto tamperModesAreOrderedSpec)

end Rows
end Go.Proofs.YtflkcganpgjkkaaDoor
