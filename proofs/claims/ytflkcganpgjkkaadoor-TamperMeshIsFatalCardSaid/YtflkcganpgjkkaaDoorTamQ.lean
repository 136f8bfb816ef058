/- The laws TamperMeshIsFatal and TamperGlitchesAreTolerated of layer 32, as the statements have them. -/
import Derived.Test.YtflkcganpgjkkaaDoorTamK
import Derived.Test.YtflkcganpgjkkaaDoorTamP
namespace Go.Proofs.YtflkcganpgjkkaaDoor
open Go Go.Sx Sf Go.ChangeShapes Go.WideShapes
set_option maxRecDepth 100000
set_option linter.unusedSimpArgs false
set_option linter.unusedVariables false

theorem mesh_met (os : Os) : laidMet Tryd.prog Rows.tamperMeshIsFatalRow.laid ((laidWorld os).forCall (fun _ _ => 0) ⟨#[], #[.agg #[.int .i64 0, .int .i64 0, .int .i64 0, .int .i64 0, .int .i64 0, .int .i64 0], .int .i64 0, .slice none 0 0], []⟩).memory :=
  laidMet_of_run' 8 (by kernel_rfl) (by kernel_rfl)
theorem mesh_reads (os : Os) {H : Type} (enc : TypeId × Value → H) : ∃ places, DataW.whole enc Tryd.prog ((laidWorld os).forCall (fun _ _ => 0) ⟨#[], #[.agg #[.int .i64 0, .int .i64 0, .int .i64 0, .int .i64 0, .int .i64 0, .int .i64 0], .int .i64 0, .slice none 0 0], []⟩).memory Tryd.f6.params.toList Rows.tamperMeshIsFatalSpec.vars false
    (#[.agg #[.int .i64 0, .int .i64 0, .int .i64 0, .int .i64 0, .int .i64 0, .int .i64 0], .int .i64 0, .slice none 0 0] : Array Value).toList 8 = some ([.agg [.lit (.int .i64 0), .lit (.int .i64 0), .agg [.lit (.int .i64 0), .lit (.int .i64 0), .lit (.int .i64 0), .lit (.int .i64 0)]], .lit (.int .i64 0), .nil], [], places) :=
  ⟨[], by kernel_rfl⟩
theorem mesh_lay : argLay Tryd.prog 8 Tryd.f6.params.toList = some [(true, [.t (.i .i64), .t (.i .i64), .t (.i .i64), .t (.i .i64), .t (.i .i64), .t (.i .i64)]), (false, [.t (.i .i64)]), (false, [.sl [.i .i64, .i .i64, .i .i64]])] := by kernel_rfl
theorem mesh_spec {H : Type} : ∀ ds : List (DataW H), ds.length = Tryd.f6.params.toList.length → (Rows.tamperMeshIsFatalSpec.fn H ds).results = [.lit (.bool true)] ∧ (Rows.tamperMeshIsFatalSpec.fn H ds).args = ds ∧ (Rows.tamperMeshIsFatalSpec.fn H ds).vars = [] := by
  intro ds h
  have e : Tryd.f6.params.toList.length = 3 := by kernel_rfl
  rw [e] at h
  match ds, h with
  | [d1, d2, d3], _ => exact ⟨rfl, rfl, rfl⟩
theorem mesh_fun : ∀ svs m n, Opns [(true, [.t (.i .i64), .t (.i .i64), .t (.i .i64), .t (.i .i64), .t (.i .i64), .t (.i .i64)]), (false, [.t (.i .i64)]), (false, [.sl [.i .i64, .i .i64, .i .i64]])] 0 svs m n → Fun Tryd.prog tS 6 svs m n (.bool true) [] n := by
  intro svs m n h
  simp only [Opns, Opn, TagSV] at h
  obtain ⟨_, _, _, _, _, rfl, rfl, ⟨_, _, rfl, ⟨m, rfl, _⟩, _, _, rfl, ⟨t, rfl, _⟩, _, _, rfl, ⟨a, rfl, _⟩, _, _, rfl, ⟨b, rfl, _⟩, _, _, rfl, ⟨c, rfl, _⟩, _, _, rfl, ⟨d, rfl, _⟩, rfl, rfl, rfl⟩, _, _, _, _, _, rfl, rfl, ⟨_, _, e2, ⟨w, rfl, _⟩, rfl, rfl, rfl⟩, _, _, _, _, _, rfl, rfl, ⟨len, cells, _, _, e3, rfl, hl, hrows, rfl, rfl, rfl⟩, rfl, rfl, rfl⟩ := h
  cases e2; cases e3
  exact f6 ⟨m, t, a, b, c, d⟩ w len cells (by unfold maxLen at hl; exact hl) hrows

theorem mesh_lifted (os : Os) (started : os.Started) (H : Type) (enc : TypeId × Value → H) (F : Stop.Interp) :
    ReturnsInHanded {} Tryd.checked os 6 .any ((OpenSpec.ofChange Rows.tamperMeshIsFatalSpec).preRow enc Tryd.prog Tryd.f6 Rows.tamperMeshIsFatalRow.domain false Rows.tamperMeshIsFatalRow.laid) (((OpenSpec.ofChange Rows.tamperMeshIsFatalSpec).at F).post enc Tryd.prog Tryd.f6 false true false false) := by
  obtain ⟨places, hx⟩ := mesh_reads os enc
  refine returnsInHanded_of_row (C := Tryd.checked) (s := OpenSpec.ofChange Rows.tamperMeshIsFatalSpec) own started (by kernel_rfl) Tryd.func6
    (witness_row_at (enc := enc) (C := Tryd.checked) false (laidWorld os) #[.agg #[.int .i64 0, .int .i64 0, .int .i64 0, .int .i64 0, .int .i64 0, .int .i64 0], .int .i64 0, .slice none 0 0] rfl (by kernel_rfl) (by kernel_rfl) (by kernel_rfl)
      (OpenSpec.preRow_of_cond 8 hx (by kernel_rfl) (fun k hk => by cases hk) (by kernel_rfl) (mesh_met os))) ?_
  intro W base args ds gs before hval hW _ _ _ hL _ _
  exact law_of_fun (d := 8) (tb := 4) (s := Rows.tamperMeshIsFatalSpec) mesh_lay rfl (by kernel_rfl) boolT mesh_spec mesh_fun (table hL) (table0 hL) hval hW
theorem mesh_said : Rows.TamperMeshIsFatalSaid :=
  OpenClaim.holds_of_cond 6 Tryd.f6 rfl rfl rfl rfl rfl rfl rfl ⟨rfl, rfl, rfl, rfl, rfl⟩ rfl rfl rfl rfl rfl (by kernel_rfl) Tryd.func6 (by kernel_rfl)
    (of_decide_eq_true (by kernel_rfl)) (by unfold Func.isWrapper; first | (rw [if_pos (by decide +kernel)]; kernel_rfl) | (rw [if_neg (by decide +kernel)]; exact ⟨rfl, rfl⟩))
    (fun os started H enc _ F => by rw [OpenClaim.pre_eq_preRow]; exact mesh_lifted os started H enc F)
theorem mesh_plain (f : FuncId) (fn : Func) (hf : Tryd.pinned.checked.prog.funcNamed Rows.tamperMeshIsFatalRow.func = some f) (hfn : Tryd.pinned.checked.prog.funcs[f]? = some fn) :
    false = Tryd.pinned.checked.prog.looks [] ∧ ∀ (j : Nat) t, fn.params[j]? = some t → Tryd.pinned.checked.prog.wantsStandIn t = false := by
  obtain rfl : f = 6 := Option.some.inj ((show Tryd.prog.funcNamed Rows.tamperMeshIsFatalRow.func = some 6 by kernel_rfl).symm.trans hf) |>.symm
  obtain rfl : fn = Tryd.f6 := (Option.some.inj (Tryd.func6.symm.trans hfn)).symm
  refine ⟨by kernel_rfl, fun j t ht => ?_⟩
  have h : (Tryd.f6.params.toList.all fun t => !Tryd.prog.wantsStandIn t) = true := by kernel_rfl
  have := List.all_eq_true.1 h t (by simpa using Array.mem_of_getElem? ht)
  exact (show Tryd.prog.wantsStandIn t = false by simpa using this)
/-- TamperMeshIsFatal holds of the program -/
theorem mesh_card : Rows.TamperMeshIsFatalCardSaid :=
  Claim7.holds_tied_plain_at .later [] _ _ _ _ mesh_said (fun _ h => by cases h) (by kernel_rfl) (fun _ h => by cases h) tamperMeshIsFatal_row_tie rfl ⟨rfl, rfl⟩ (by kernel_rfl) rfl mesh_plain (by kernel_rfl)

theorem glit_met (os : Os) : laidMet Tryd.prog Rows.tamperGlitchesAreToleratedRow.laid ((laidWorld os).forCall (fun _ _ => 0) ⟨#[], #[.int .u32 0, .slice none 0 0], []⟩).memory :=
  laidMet_of_run' 8 (by kernel_rfl) (by kernel_rfl)
theorem glit_reads (os : Os) {H : Type} (enc : TypeId × Value → H) : ∃ places, DataW.whole enc Tryd.prog ((laidWorld os).forCall (fun _ _ => 0) ⟨#[], #[.int .u32 0, .slice none 0 0], []⟩).memory Tryd.f7.params.toList Rows.tamperGlitchesAreToleratedSpec.vars false
    (#[.int .u32 0, .slice none 0 0] : Array Value).toList 8 = some ([.lit (.int .u32 0), .nil], [], places) :=
  ⟨[], by kernel_rfl⟩
theorem glit_lay : argLay Tryd.prog 8 Tryd.f7.params.toList = some [(false, [.t (.i .u32)]), (false, [.sl [.i .u16]])] := by kernel_rfl
theorem glit_spec {H : Type} : ∀ ds : List (DataW H), ds.length = Tryd.f7.params.toList.length → (Rows.tamperGlitchesAreToleratedSpec.fn H ds).results = [.lit (.bool true)] ∧ (Rows.tamperGlitchesAreToleratedSpec.fn H ds).args = ds ∧ (Rows.tamperGlitchesAreToleratedSpec.fn H ds).vars = [] := by
  intro ds h
  have e : Tryd.f7.params.toList.length = 2 := by kernel_rfl
  rw [e] at h
  match ds, h with
  | [d1, d2], _ => exact ⟨rfl, rfl, rfl⟩
theorem glit_fun : ∀ svs m n, Opns [(false, [.t (.i .u32)]), (false, [.sl [.i .u16]])] 0 svs m n → Fun Tryd.prog tS 7 svs m n (.bool true) [] n := by
  intro svs m n h
  simp only [Opns, Opn, TagSV] at h
  obtain ⟨_, _, _, _, _, rfl, rfl, ⟨_, _, e2, ⟨w, rfl, hw⟩, rfl, rfl, rfl⟩, _, _, _, _, _, rfl, rfl, ⟨len, cells, _, _, e3, rfl, hl, hrows, rfl, rfl, rfl⟩, rfl, rfl, rfl⟩ := h
  cases e2; cases e3
  exact f7 w (u32_range hw) len cells (by unfold maxLen at hl; exact hl) hrows

theorem glit_lifted (os : Os) (started : os.Started) (H : Type) (enc : TypeId × Value → H) (F : Stop.Interp) :
    ReturnsInHanded {} Tryd.checked os 7 .any ((OpenSpec.ofChange Rows.tamperGlitchesAreToleratedSpec).preRow enc Tryd.prog Tryd.f7 Rows.tamperGlitchesAreToleratedRow.domain false Rows.tamperGlitchesAreToleratedRow.laid) (((OpenSpec.ofChange Rows.tamperGlitchesAreToleratedSpec).at F).post enc Tryd.prog Tryd.f7 false true false false) := by
  obtain ⟨places, hx⟩ := glit_reads os enc
  refine returnsInHanded_of_row (C := Tryd.checked) (s := OpenSpec.ofChange Rows.tamperGlitchesAreToleratedSpec) own started (by kernel_rfl) Tryd.func7
    (witness_row_at (enc := enc) (C := Tryd.checked) false (laidWorld os) #[.int .u32 0, .slice none 0 0] rfl (by kernel_rfl) (by kernel_rfl) (by kernel_rfl)
      (OpenSpec.preRow_of_cond 8 hx (by kernel_rfl) (fun k hk => by cases hk) (by kernel_rfl) (glit_met os))) ?_
  intro W base args ds gs before hval hW _ _ _ hL _ _
  exact law_of_fun (d := 8) (tb := 4) (s := Rows.tamperGlitchesAreToleratedSpec) glit_lay rfl (by kernel_rfl) boolT glit_spec glit_fun (table hL) (table0 hL) hval hW
theorem glit_said : Rows.TamperGlitchesAreToleratedSaid :=
  OpenClaim.holds_of_cond 7 Tryd.f7 rfl rfl rfl rfl rfl rfl rfl ⟨rfl, rfl, rfl, rfl, rfl⟩ rfl rfl rfl rfl rfl (by kernel_rfl) Tryd.func7 (by kernel_rfl)
    (of_decide_eq_true (by kernel_rfl)) (by unfold Func.isWrapper; first | (rw [if_pos (by decide +kernel)]; kernel_rfl) | (rw [if_neg (by decide +kernel)]; exact ⟨rfl, rfl⟩))
    (fun os started H enc _ F => by rw [OpenClaim.pre_eq_preRow]; exact glit_lifted os started H enc F)
theorem glit_plain (f : FuncId) (fn : Func) (hf : Tryd.pinned.checked.prog.funcNamed Rows.tamperGlitchesAreToleratedRow.func = some f) (hfn : Tryd.pinned.checked.prog.funcs[f]? = some fn) :
    false = Tryd.pinned.checked.prog.looks [] ∧ ∀ (j : Nat) t, fn.params[j]? = some t → Tryd.pinned.checked.prog.wantsStandIn t = false := by
  obtain rfl : f = 7 := Option.some.inj ((show Tryd.prog.funcNamed Rows.tamperGlitchesAreToleratedRow.func = some 7 by kernel_rfl).symm.trans hf) |>.symm
  obtain rfl : fn = Tryd.f7 := (Option.some.inj (Tryd.func7.symm.trans hfn)).symm
  refine ⟨by kernel_rfl, fun j t ht => ?_⟩
  have h : (Tryd.f7.params.toList.all fun t => !Tryd.prog.wantsStandIn t) = true := by kernel_rfl
  have := List.all_eq_true.1 h t (by simpa using Array.mem_of_getElem? ht)
  exact (show Tryd.prog.wantsStandIn t = false by simpa using this)
/-- TamperGlitchesAreTolerated holds of the program -/
theorem glit_card : Rows.TamperGlitchesAreToleratedCardSaid :=
  Claim7.holds_tied_plain_at .later [] _ _ _ _ glit_said (fun _ h => by cases h) (by kernel_rfl) (fun _ h => by cases h) tamperGlitchesAreTolerated_row_tie rfl ⟨rfl, rfl⟩ (by kernel_rfl) rfl glit_plain (by kernel_rfl)

end Go.Proofs.YtflkcganpgjkkaaDoor
