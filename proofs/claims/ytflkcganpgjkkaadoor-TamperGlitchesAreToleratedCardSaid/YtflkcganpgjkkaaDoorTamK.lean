/- The laws of layer 32 of the program that do not loop, as the statements have them: TamperModesAreOrdered and TamperCommandsMatchSpec. -/
import Derived.Test.YtflkcganpgjkkaaDoorTamJ
import Derived.Test.YtflkcganpgjkkaaDoorEngZd
import Derived.Test.YtflkcganpgjkkaaDoorCards
import Derived.Test.YtflkcganpgjkkaaDoorTie
import Derived.RowKit
import Derived.ProofKit
import Derived.Deep.DeepHandedRow
namespace Go.Proofs.YtflkcganpgjkkaaDoor
open Go Go.Sx Sf Go.ChangeShapes Go.WideShapes
set_option maxRecDepth 100000
set_option linter.unusedSimpArgs false
set_option linter.unusedVariables false

theorem own : ownKnob Tryd.prog.godebug = none := by kernel_rfl
/-- the name of the table of the sensors -/
def nSens : String := (Rows.tamperModesAreOrderedRow.laid.map (·.1)).headD default
theorem gSens : Tryd.prog.globalNamed nSens = some 0 := by kernel_rfl
theorem gSensType : (Tryd.prog.globals[0]?).map (·.type) = some 60 := by kernel_rfl
theorem flat60 : flatT Tryd.prog 5 60 = some 12 := by kernel_rfl
theorem lits60 : (litsOf (H := Unit) Rows.laid_custody_tamper_sensors).length = 12 := by rfl

theorem table {W : World} (h : laidMet Tryd.prog Rows.tamperModesAreOrderedRow.laid W) : TabOk tS W := by
  obtain ⟨ps, h, _⟩ := h
  intro g cs hm
  simp only [tS, List.mem_cons, List.not_mem_nil, or_false] at hm
  cases hm
  exact tab_of_laid h (name := nSens) List.mem_cons_self gSens gSensType flat60 lits60 (by decide)

/-- a world for the witness: the settled one, the table (block 0) holding what its initialiser lays -/
noncomputable def laidWorld (os : Os) : World :=
  { World.holding Tryd.prog os ⟨#[], #[], []⟩ with heap := (World.holding Tryd.prog os ⟨#[], #[], []⟩).heap.modify 0 fun
      | .cells _ t frozen => .cells (litsOf (H := Unit) Rows.laid_custody_tamper_sensors).toArray t frozen
      | o => o }

theorem table0 {W : World} (h : laidMet Tryd.prog Rows.tamperModesAreOrderedRow.laid W) : 0 < W.heap.size :=
  (table h 0 _ List.mem_cons_self).1
theorem boolT : Tryd.prog.underlying 4 = some .bool := by kernel_rfl
theorem u8_range {n : Int} (h : (Lit.int .u8 n).wf = true) : 0 ≤ n ∧ n < 256 := by
  simp [Lit.wf, IntKind.min, IntKind.max, IntKind.signed, IntKind.bits] at h; omega
theorem u16_range {n : Int} (h : (Lit.int .u16 n).wf = true) : 0 ≤ n ∧ n < 65536 := by
  simp [Lit.wf, IntKind.min, IntKind.max, IntKind.signed, IntKind.bits] at h; omega
theorem u32_range {n : Int} (h : (Lit.int .u32 n).wf = true) : 0 ≤ n ∧ n < 4294967296 := by
  simp [Lit.wf, IntKind.min, IntKind.max, IntKind.signed, IntKind.bits] at h; omega

theorem modes_met (os : Os) : laidMet Tryd.prog Rows.tamperModesAreOrderedRow.laid ((laidWorld os).forCall (fun _ _ => 0) ⟨#[], #[.int .u8 0, .int .i64 0], []⟩).memory :=
  laidMet_of_run' 8 (by kernel_rfl) (by kernel_rfl)
theorem modes_reads (os : Os) {H : Type} (enc : TypeId × Value → H) : ∃ places, DataW.whole enc Tryd.prog ((laidWorld os).forCall (fun _ _ => 0) ⟨#[], #[.int .u8 0, .int .i64 0], []⟩).memory Tryd.f8.params.toList Rows.tamperModesAreOrderedSpec.vars false
    (#[.int .u8 0, .int .i64 0] : Array Value).toList 8 = some ([.lit (.int .u8 0), .lit (.int .i64 0)], [], places) :=
  ⟨[], by kernel_rfl⟩
theorem modes_lay : argLay Tryd.prog 8 Tryd.f8.params.toList = some [(false, [.t (.i .u8)]), (false, [.t (.i .i64)])] := by kernel_rfl
theorem modes_spec {H : Type} : ∀ ds : List (DataW H), ds.length = Tryd.f8.params.toList.length → (Rows.tamperModesAreOrderedSpec.fn H ds).results = [.lit (.bool true)] ∧ (Rows.tamperModesAreOrderedSpec.fn H ds).args = ds ∧ (Rows.tamperModesAreOrderedSpec.fn H ds).vars = [] := by
  intro ds h
  have e : Tryd.f8.params.toList.length = 2 := by kernel_rfl
  rw [e] at h
  match ds, h with
  | [d1, d2], _ => exact ⟨rfl, rfl, rfl⟩
theorem modes_fun : ∀ svs m n, Opns [(false, [.t (.i .u8)]), (false, [.t (.i .i64)])] 0 svs m n → Fun Tryd.prog tS 8 svs m n (.bool true) [] n := by
  intro svs m n h
  simp only [Opns, Opn, TagSV] at h
  obtain ⟨_, _, _, _, _, rfl, rfl, ⟨_, _, e1, ⟨q, rfl, hq⟩, rfl, rfl, rfl⟩, _, _, _, _, _, rfl, rfl, ⟨_, _, e2, ⟨c, rfl, _⟩, rfl, rfl, rfl⟩, rfl, rfl, rfl⟩ := h
  cases e1; cases e2
  exact f8 q c (u8_range hq)

theorem modes_lifted (os : Os) (started : os.Started) (H : Type) (enc : TypeId × Value → H) (F : Stop.Interp) :
    ReturnsInHanded {} Tryd.checked os 8 .any ((OpenSpec.ofChange Rows.tamperModesAreOrderedSpec).preRow enc Tryd.prog Tryd.f8 Rows.tamperModesAreOrderedRow.domain false Rows.tamperModesAreOrderedRow.laid) (((OpenSpec.ofChange Rows.tamperModesAreOrderedSpec).at F).post enc Tryd.prog Tryd.f8 false true false false) := by
  obtain ⟨places, hx⟩ := modes_reads os enc
  refine returnsInHanded_of_row (C := Tryd.checked) (s := OpenSpec.ofChange Rows.tamperModesAreOrderedSpec) own started (by kernel_rfl) Tryd.func8
    (witness_row_at (enc := enc) (C := Tryd.checked) false (laidWorld os) #[.int .u8 0, .int .i64 0] rfl (by kernel_rfl) (by kernel_rfl) (by kernel_rfl)
      (OpenSpec.preRow_of_cond 8 hx (by kernel_rfl) (fun k hk => by cases hk) (by kernel_rfl) (modes_met os))) ?_
  intro W base args ds gs before hval hW _ _ _ hL _ _
  exact law_of_fun (d := 8) (tb := 4) (s := Rows.tamperModesAreOrderedSpec) modes_lay rfl (by kernel_rfl) boolT modes_spec modes_fun (table hL) (table0 hL) hval hW
theorem modes_said : Rows.TamperModesAreOrderedSaid :=
  OpenClaim.holds_of_cond 8 Tryd.f8 rfl rfl rfl rfl rfl rfl rfl ⟨rfl, rfl, rfl, rfl, rfl⟩ rfl rfl rfl rfl rfl (by kernel_rfl) Tryd.func8 (by kernel_rfl)
    (of_decide_eq_true (by kernel_rfl)) (by unfold Func.isWrapper; first | (rw [if_pos (by decide +kernel)]; kernel_rfl) | (rw [if_neg (by decide +kernel)]; exact ⟨rfl, rfl⟩))
    (fun os started H enc _ F => by rw [OpenClaim.pre_eq_preRow]; exact modes_lifted os started H enc F)
theorem modes_plain (f : FuncId) (fn : Func) (hf : Tryd.pinned.checked.prog.funcNamed Rows.tamperModesAreOrderedRow.func = some f) (hfn : Tryd.pinned.checked.prog.funcs[f]? = some fn) :
    false = Tryd.pinned.checked.prog.looks [] ∧ ∀ (j : Nat) t, fn.params[j]? = some t → Tryd.pinned.checked.prog.wantsStandIn t = false := by
  obtain rfl : f = 8 := Option.some.inj ((show Tryd.prog.funcNamed Rows.tamperModesAreOrderedRow.func = some 8 by kernel_rfl).symm.trans hf) |>.symm
  obtain rfl : fn = Tryd.f8 := (Option.some.inj (Tryd.func8.symm.trans hfn)).symm
  refine ⟨by kernel_rfl, fun j t ht => ?_⟩
  have h : (Tryd.f8.params.toList.all fun t => !Tryd.prog.wantsStandIn t) = true := by kernel_rfl
  have := List.all_eq_true.1 h t (by simpa using Array.mem_of_getElem? ht)
  exact (show Tryd.prog.wantsStandIn t = false by simpa using this)
/-- TamperModesAreOrdered holds of the program -/
theorem modes_card : Rows.TamperModesAreOrderedCardSaid :=
  Claim7.holds_tied_plain_at .later [] _ _ _ _ modes_said (fun _ h => by cases h) (by kernel_rfl) (fun _ h => by cases h) tamperModesAreOrdered_row_tie rfl ⟨rfl, rfl⟩ (by kernel_rfl) rfl modes_plain (by kernel_rfl)

theorem cmds_met (os : Os) : laidMet Tryd.prog Rows.tamperCommandsMatchSpecRow.laid ((laidWorld os).forCall (fun _ _ => 0) ⟨#[], #[.agg #[.int .i64 0, .int .i64 0, .int .i64 0, .int .i64 0, .int .i64 0, .int .i64 0], .int .i64 0, .agg #[.int .i64 0, .int .i64 0]], []⟩).memory :=
  laidMet_of_run' 8 (by kernel_rfl) (by kernel_rfl)
theorem cmds_reads (os : Os) {H : Type} (enc : TypeId × Value → H) : ∃ places, DataW.whole enc Tryd.prog ((laidWorld os).forCall (fun _ _ => 0) ⟨#[], #[.agg #[.int .i64 0, .int .i64 0, .int .i64 0, .int .i64 0, .int .i64 0, .int .i64 0], .int .i64 0, .agg #[.int .i64 0, .int .i64 0]], []⟩).memory Tryd.f3.params.toList Rows.tamperCommandsMatchSpecSpec.vars false
    (#[.agg #[.int .i64 0, .int .i64 0, .int .i64 0, .int .i64 0, .int .i64 0, .int .i64 0], .int .i64 0, .agg #[.int .i64 0, .int .i64 0]] : Array Value).toList 8 = some ([.agg [.lit (.int .i64 0), .lit (.int .i64 0), .agg [.lit (.int .i64 0), .lit (.int .i64 0), .lit (.int .i64 0), .lit (.int .i64 0)]], .lit (.int .i64 0), .agg [.lit (.int .i64 0), .lit (.int .i64 0)]], [], places) :=
  ⟨[], by kernel_rfl⟩
theorem cmds_lay : argLay Tryd.prog 8 Tryd.f3.params.toList = some [(true, [.t (.i .i64), .t (.i .i64), .t (.i .i64), .t (.i .i64), .t (.i .i64), .t (.i .i64)]), (false, [.t (.i .i64)]), (true, [.t (.i .i64), .t (.i .i64)])] := by kernel_rfl
theorem cmds_spec {H : Type} : ∀ ds : List (DataW H), ds.length = Tryd.f3.params.toList.length → (Rows.tamperCommandsMatchSpecSpec.fn H ds).results = [.lit (.bool true)] ∧ (Rows.tamperCommandsMatchSpecSpec.fn H ds).args = ds ∧ (Rows.tamperCommandsMatchSpecSpec.fn H ds).vars = [] := by
  intro ds h
  have e : Tryd.f3.params.toList.length = 3 := by kernel_rfl
  rw [e] at h
  match ds, h with
  | [d1, d2, d3], _ => exact ⟨rfl, rfl, rfl⟩
theorem cmds_fun : ∀ svs m n, Opns [(true, [.t (.i .i64), .t (.i .i64), .t (.i .i64), .t (.i .i64), .t (.i .i64), .t (.i .i64)]), (false, [.t (.i .i64)]), (true, [.t (.i .i64), .t (.i .i64)])] 0 svs m n → Fun Tryd.prog tS 3 svs m n (.bool true) [] n := by
  intro svs m n h
  simp only [Opns, Opn, TagSV] at h
  obtain ⟨_, _, _, _, _, rfl, rfl, ⟨_, _, rfl, ⟨m, rfl, _⟩, _, _, rfl, ⟨t, rfl, _⟩, _, _, rfl, ⟨a, rfl, _⟩, _, _, rfl, ⟨b, rfl, _⟩, _, _, rfl, ⟨c, rfl, _⟩, _, _, rfl, ⟨d, rfl, _⟩, rfl, rfl, rfl⟩, _, _, _, _, _, rfl, rfl, ⟨_, _, e2, ⟨w, rfl, _⟩, rfl, rfl, rfl⟩, _, _, _, _, _, rfl, rfl, ⟨_, _, rfl, ⟨x, rfl, _⟩, _, _, rfl, ⟨y, rfl, _⟩, rfl, rfl, rfl⟩, rfl, rfl, rfl⟩ := h
  cases e2
  exact f3 ⟨m, t, a, b, c, d⟩ w x y

theorem cmds_lifted (os : Os) (started : os.Started) (H : Type) (enc : TypeId × Value → H) (F : Stop.Interp) :
    ReturnsInHanded {} Tryd.checked os 3 .any ((OpenSpec.ofChange Rows.tamperCommandsMatchSpecSpec).preRow enc Tryd.prog Tryd.f3 Rows.tamperCommandsMatchSpecRow.domain false Rows.tamperCommandsMatchSpecRow.laid) (((OpenSpec.ofChange Rows.tamperCommandsMatchSpecSpec).at F).post enc Tryd.prog Tryd.f3 false true false false) := by
  obtain ⟨places, hx⟩ := cmds_reads os enc
  refine returnsInHanded_of_row (C := Tryd.checked) (s := OpenSpec.ofChange Rows.tamperCommandsMatchSpecSpec) own started (by kernel_rfl) Tryd.func3
    (witness_row_at (enc := enc) (C := Tryd.checked) false (laidWorld os) #[.agg #[.int .i64 0, .int .i64 0, .int .i64 0, .int .i64 0, .int .i64 0, .int .i64 0], .int .i64 0, .agg #[.int .i64 0, .int .i64 0]] rfl (by kernel_rfl) (by kernel_rfl) (by kernel_rfl)
      (OpenSpec.preRow_of_cond 8 hx (by kernel_rfl) (fun k hk => by cases hk) (by kernel_rfl) (cmds_met os))) ?_
  intro W base args ds gs before hval hW _ _ _ hL _ _
  exact law_of_fun (d := 8) (tb := 4) (s := Rows.tamperCommandsMatchSpecSpec) cmds_lay rfl (by kernel_rfl) boolT cmds_spec cmds_fun (table hL) (table0 hL) hval hW
theorem cmds_said : Rows.TamperCommandsMatchSpecSaid :=
  OpenClaim.holds_of_cond 3 Tryd.f3 rfl rfl rfl rfl rfl rfl rfl ⟨rfl, rfl, rfl, rfl, rfl⟩ rfl rfl rfl rfl rfl (by kernel_rfl) Tryd.func3 (by kernel_rfl)
    (of_decide_eq_true (by kernel_rfl)) (by unfold Func.isWrapper; first | (rw [if_pos (by decide +kernel)]; kernel_rfl) | (rw [if_neg (by decide +kernel)]; exact ⟨rfl, rfl⟩))
    (fun os started H enc _ F => by rw [OpenClaim.pre_eq_preRow]; exact cmds_lifted os started H enc F)
theorem cmds_plain (f : FuncId) (fn : Func) (hf : Tryd.pinned.checked.prog.funcNamed Rows.tamperCommandsMatchSpecRow.func = some f) (hfn : Tryd.pinned.checked.prog.funcs[f]? = some fn) :
    false = Tryd.pinned.checked.prog.looks [] ∧ ∀ (j : Nat) t, fn.params[j]? = some t → Tryd.pinned.checked.prog.wantsStandIn t = false := by
  obtain rfl : f = 3 := Option.some.inj ((show Tryd.prog.funcNamed Rows.tamperCommandsMatchSpecRow.func = some 3 by kernel_rfl).symm.trans hf) |>.symm
  obtain rfl : fn = Tryd.f3 := (Option.some.inj (Tryd.func3.symm.trans hfn)).symm
  refine ⟨by kernel_rfl, fun j t ht => ?_⟩
  have h : (Tryd.f3.params.toList.all fun t => !Tryd.prog.wantsStandIn t) = true := by kernel_rfl
  have := List.all_eq_true.1 h t (by simpa using Array.mem_of_getElem? ht)
  exact (show Tryd.prog.wantsStandIn t = false by simpa using this)
/-- TamperCommandsMatchSpec holds of the program -/
theorem cmds_card : Rows.TamperCommandsMatchSpecCardSaid :=
  Claim7.holds_tied_plain_at .later [] _ _ _ _ cmds_said (fun _ h => by cases h) (by kernel_rfl) (fun _ h => by cases h) tamperCommandsMatchSpec_row_tie rfl ⟨rfl, rfl⟩ (by kernel_rfl) rfl cmds_plain (by kernel_rfl)

end Go.Proofs.YtflkcganpgjkkaaDoor
