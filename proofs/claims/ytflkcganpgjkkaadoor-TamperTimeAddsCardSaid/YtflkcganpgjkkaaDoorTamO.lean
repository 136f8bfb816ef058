/- The laws TamperNeverCalmsDown and TamperTimeAdds of layer 32, as the statements have them. -/
import Derived.Test.YtflkcganpgjkkaaDoorTamK
import Derived.Test.YtflkcganpgjkkaaDoorTamM
namespace Go.Proofs.YtflkcganpgjkkaaDoor
open Go Go.Sx Sf Go.ChangeShapes Go.WideShapes
set_option maxRecDepth 100000
set_option linter.unusedSimpArgs false
set_option linter.unusedVariables false

theorem calm_met (os : Os) : laidMet Tryd.prog Rows.tamperNeverCalmsDownRow.laid ((laidWorld os).forCall (fun _ _ => 0) ⟨#[], #[.agg #[.int .i64 0, .int .i64 0, .int .i64 0, .int .i64 0, .int .i64 0, .int .i64 0], .agg #[.int .i64 0, .int .i64 0], .int .i64 0], []⟩).memory :=
  laidMet_of_run' 8 (by kernel_rfl) (by kernel_rfl)
theorem calm_reads (os : Os) {H : Type} (enc : TypeId × Value → H) : ∃ places, DataW.whole enc Tryd.prog ((laidWorld os).forCall (fun _ _ => 0) ⟨#[], #[.agg #[.int .i64 0, .int .i64 0, .int .i64 0, .int .i64 0, .int .i64 0, .int .i64 0], .agg #[.int .i64 0, .int .i64 0], .int .i64 0], []⟩).memory Tryd.f4.params.toList Rows.tamperNeverCalmsDownSpec.vars false
    (#[.agg #[.int .i64 0, .int .i64 0, .int .i64 0, .int .i64 0, .int .i64 0, .int .i64 0], .agg #[.int .i64 0, .int .i64 0], .int .i64 0] : Array Value).toList 8 = some ([.agg [.lit (.int .i64 0), .lit (.int .i64 0), .agg [.lit (.int .i64 0), .lit (.int .i64 0), .lit (.int .i64 0), .lit (.int .i64 0)]], .agg [.lit (.int .i64 0), .lit (.int .i64 0)], .lit (.int .i64 0)], [], places) :=
  ⟨[], by kernel_rfl⟩
theorem calm_lay : argLay Tryd.prog 8 Tryd.f4.params.toList = some [(true, [.t (.i .i64), .t (.i .i64), .t (.i .i64), .t (.i .i64), .t (.i .i64), .t (.i .i64)]), (true, [.t (.i .i64), .t (.i .i64)]), (false, [.t (.i .i64)])] := by kernel_rfl
theorem calm_spec {H : Type} : ∀ ds : List (DataW H), ds.length = Tryd.f4.params.toList.length → (Rows.tamperNeverCalmsDownSpec.fn H ds).results = [.lit (.bool true)] ∧ (Rows.tamperNeverCalmsDownSpec.fn H ds).args = ds ∧ (Rows.tamperNeverCalmsDownSpec.fn H ds).vars = [] := by
  intro ds h
  have e : Tryd.f4.params.toList.length = 3 := by kernel_rfl
  rw [e] at h
  match ds, h with
  | [d1, d2, d3], _ => exact ⟨rfl, rfl, rfl⟩
theorem calm_fun : ∀ svs m n, Opns [(true, [.t (.i .i64), .t (.i .i64), .t (.i .i64), .t (.i .i64), .t (.i .i64), .t (.i .i64)]), (true, [.t (.i .i64), .t (.i .i64)]), (false, [.t (.i .i64)])] 0 svs m n → Fun Tryd.prog tS 4 svs m n (.bool true) [] n := by
  intro svs m n h
  simp only [Opns, Opn, TagSV] at h
  obtain ⟨_, _, _, _, _, rfl, rfl, ⟨_, _, rfl, ⟨m, rfl, _⟩, _, _, rfl, ⟨t, rfl, _⟩, _, _, rfl, ⟨a, rfl, _⟩, _, _, rfl, ⟨b, rfl, _⟩, _, _, rfl, ⟨c, rfl, _⟩, _, _, rfl, ⟨d, rfl, _⟩, rfl, rfl, rfl⟩, _, _, _, _, _, rfl, rfl, ⟨_, _, rfl, ⟨x, rfl, _⟩, _, _, rfl, ⟨y, rfl, _⟩, rfl, rfl, rfl⟩, _, _, _, _, _, rfl, rfl, ⟨_, _, e2, ⟨w, rfl, _⟩, rfl, rfl, rfl⟩, rfl, rfl, rfl⟩ := h
  cases e2
  exact f4 ⟨m, t, a, b, c, d⟩ x y w

theorem calm_lifted (os : Os) (started : os.Started) (H : Type) (enc : TypeId × Value → H) (F : Stop.Interp) :
    ReturnsInHanded {} Tryd.checked os 4 .any ((OpenSpec.ofChange Rows.tamperNeverCalmsDownSpec).preRow enc Tryd.prog Tryd.f4 Rows.tamperNeverCalmsDownRow.domain false Rows.tamperNeverCalmsDownRow.laid) (((OpenSpec.ofChange Rows.tamperNeverCalmsDownSpec).at F).post enc Tryd.prog Tryd.f4 false true false false) := by
  obtain ⟨places, hx⟩ := calm_reads os enc
  refine returnsInHanded_of_row (C := Tryd.checked) (s := OpenSpec.ofChange Rows.tamperNeverCalmsDownSpec) own started (by kernel_rfl) Tryd.func4
    (witness_row_at (enc := enc) (C := Tryd.checked) false (laidWorld os) #[.agg #[.int .i64 0, .int .i64 0, .int .i64 0, .int .i64 0, .int .i64 0, .int .i64 0], .agg #[.int .i64 0, .int .i64 0], .int .i64 0] rfl (by kernel_rfl) (by kernel_rfl) (by kernel_rfl)
      (OpenSpec.preRow_of_cond 8 hx (by kernel_rfl) (fun k hk => by cases hk) (by kernel_rfl) (calm_met os))) ?_
  intro W base args ds gs before hval hW _ _ _ hL _ _
  exact law_of_fun (d := 8) (tb := 4) (s := Rows.tamperNeverCalmsDownSpec) calm_lay rfl (by kernel_rfl) boolT calm_spec calm_fun (table hL) (table0 hL) hval hW
theorem calm_said : Rows.TamperNeverCalmsDownSaid :=
  OpenClaim.holds_of_cond 4 Tryd.f4 rfl rfl rfl rfl rfl rfl rfl ⟨rfl, rfl, rfl, rfl, rfl⟩ rfl rfl rfl rfl rfl (by kernel_rfl) Tryd.func4 (by kernel_rfl)
    (of_decide_eq_true (by kernel_rfl)) (by unfold Func.isWrapper; first | (rw [if_pos (by decide +kernel)]; kernel_rfl) | (rw [if_neg (by decide +kernel)]; exact ⟨rfl, rfl⟩))
    (fun os started H enc _ F => by rw [OpenClaim.pre_eq_preRow]; exact calm_lifted os started H enc F)
theorem calm_plain (f : FuncId) (fn : Func) (hf : Tryd.pinned.checked.prog.funcNamed Rows.tamperNeverCalmsDownRow.func = some f) (hfn : Tryd.pinned.checked.prog.funcs[f]? = some fn) :
    false = Tryd.pinned.checked.prog.looks [] ∧ ∀ (j : Nat) t, fn.params[j]? = some t → Tryd.pinned.checked.prog.wantsStandIn t = false := by
  obtain rfl : f = 4 := Option.some.inj ((show Tryd.prog.funcNamed Rows.tamperNeverCalmsDownRow.func = some 4 by kernel_rfl).symm.trans hf) |>.symm
  obtain rfl : fn = Tryd.f4 := (Option.some.inj (Tryd.func4.symm.trans hfn)).symm
  refine ⟨by kernel_rfl, fun j t ht => ?_⟩
  have h : (Tryd.f4.params.toList.all fun t => !Tryd.prog.wantsStandIn t) = true := by kernel_rfl
  have := List.all_eq_true.1 h t (by simpa using Array.mem_of_getElem? ht)
  exact (show Tryd.prog.wantsStandIn t = false by simpa using this)
/-- TamperNeverCalmsDown holds of the program -/
theorem calm_card : Rows.TamperNeverCalmsDownCardSaid :=
  Claim7.holds_tied_plain_at .later [] _ _ _ _ calm_said (fun _ h => by cases h) (by kernel_rfl) (fun _ h => by cases h) tamperNeverCalmsDown_row_tie rfl ⟨rfl, rfl⟩ (by kernel_rfl) rfl calm_plain (by kernel_rfl)

theorem adds_met (os : Os) : laidMet Tryd.prog Rows.tamperTimeAddsRow.laid ((laidWorld os).forCall (fun _ _ => 0) ⟨#[], #[.agg #[.int .i64 0, .int .i64 0, .int .i64 0, .int .i64 0, .int .i64 0, .int .i64 0], .int .i64 0, .int .i64 0], []⟩).memory :=
  laidMet_of_run' 8 (by kernel_rfl) (by kernel_rfl)
theorem adds_reads (os : Os) {H : Type} (enc : TypeId × Value → H) : ∃ places, DataW.whole enc Tryd.prog ((laidWorld os).forCall (fun _ _ => 0) ⟨#[], #[.agg #[.int .i64 0, .int .i64 0, .int .i64 0, .int .i64 0, .int .i64 0, .int .i64 0], .int .i64 0, .int .i64 0], []⟩).memory Tryd.f5.params.toList Rows.tamperTimeAddsSpec.vars false
    (#[.agg #[.int .i64 0, .int .i64 0, .int .i64 0, .int .i64 0, .int .i64 0, .int .i64 0], .int .i64 0, .int .i64 0] : Array Value).toList 8 = some ([.agg [.lit (.int .i64 0), .lit (.int .i64 0), .agg [.lit (.int .i64 0), .lit (.int .i64 0), .lit (.int .i64 0), .lit (.int .i64 0)]], .lit (.int .i64 0), .lit (.int .i64 0)], [], places) :=
  ⟨[], by kernel_rfl⟩
theorem adds_lay : argLay Tryd.prog 8 Tryd.f5.params.toList = some [(true, [.t (.i .i64), .t (.i .i64), .t (.i .i64), .t (.i .i64), .t (.i .i64), .t (.i .i64)]), (false, [.t (.i .i64)]), (false, [.t (.i .i64)])] := by kernel_rfl
theorem adds_spec {H : Type} : ∀ ds : List (DataW H), ds.length = Tryd.f5.params.toList.length → (Rows.tamperTimeAddsSpec.fn H ds).results = [.lit (.bool true)] ∧ (Rows.tamperTimeAddsSpec.fn H ds).args = ds ∧ (Rows.tamperTimeAddsSpec.fn H ds).vars = [] := by
  intro ds h
  have e : Tryd.f5.params.toList.length = 3 := by kernel_rfl
  rw [e] at h
  match ds, h with
  | [d1, d2, d3], _ => exact ⟨rfl, rfl, rfl⟩
theorem adds_fun : ∀ svs m n, Opns [(true, [.t (.i .i64), .t (.i .i64), .t (.i .i64), .t (.i .i64), .t (.i .i64), .t (.i .i64)]), (false, [.t (.i .i64)]), (false, [.t (.i .i64)])] 0 svs m n → Fun Tryd.prog tS 5 svs m n (.bool true) [] n := by
  intro svs m n h
  simp only [Opns, Opn, TagSV] at h
  obtain ⟨_, _, _, _, _, rfl, rfl, ⟨_, _, rfl, ⟨m, rfl, _⟩, _, _, rfl, ⟨t, rfl, _⟩, _, _, rfl, ⟨a, rfl, _⟩, _, _, rfl, ⟨b, rfl, _⟩, _, _, rfl, ⟨c, rfl, _⟩, _, _, rfl, ⟨d, rfl, _⟩, rfl, rfl, rfl⟩, _, _, _, _, _, rfl, rfl, ⟨_, _, e1, ⟨v, rfl, _⟩, rfl, rfl, rfl⟩, _, _, _, _, _, rfl, rfl, ⟨_, _, e2, ⟨w, rfl, _⟩, rfl, rfl, rfl⟩, rfl, rfl, rfl⟩ := h
  cases e1; cases e2
  exact f5 ⟨m, t, a, b, c, d⟩ v w

theorem adds_lifted (os : Os) (started : os.Started) (H : Type) (enc : TypeId × Value → H) (F : Stop.Interp) :
    ReturnsInHanded {} Tryd.checked os 5 .any ((OpenSpec.ofChange Rows.tamperTimeAddsSpec).preRow enc Tryd.prog Tryd.f5 Rows.tamperTimeAddsRow.domain false Rows.tamperTimeAddsRow.laid) (((OpenSpec.ofChange Rows.tamperTimeAddsSpec).at F).post enc Tryd.prog Tryd.f5 false true false false) := by
  obtain ⟨places, hx⟩ := adds_reads os enc
  refine returnsInHanded_of_row (C := Tryd.checked) (s := OpenSpec.ofChange Rows.tamperTimeAddsSpec) own started (by kernel_rfl) Tryd.func5
    (witness_row_at (enc := enc) (C := Tryd.checked) false (laidWorld os) #[.agg #[.int .i64 0, .int .i64 0, .int .i64 0, .int .i64 0, .int .i64 0, .int .i64 0], .int .i64 0, .int .i64 0] rfl (by kernel_rfl) (by kernel_rfl) (by kernel_rfl)
      (OpenSpec.preRow_of_cond 8 hx (by kernel_rfl) (fun k hk => by cases hk) (by kernel_rfl) (adds_met os))) ?_
  intro W base args ds gs before hval hW _ _ _ hL _ _
  exact law_of_fun (d := 8) (tb := 4) (s := Rows.tamperTimeAddsSpec) adds_lay rfl (by kernel_rfl) boolT adds_spec adds_fun (table hL) (table0 hL) hval hW
theorem adds_said : Rows.TamperTimeAddsSaid :=
  OpenClaim.holds_of_cond 5 Tryd.f5 rfl rfl rfl rfl rfl rfl rfl ⟨rfl, rfl, rfl, rfl, rfl⟩ rfl rfl rfl rfl rfl (by kernel_rfl) Tryd.func5 (by kernel_rfl)
    (of_decide_eq_true (by kernel_rfl)) (by unfold Func.isWrapper; first | (rw [if_pos (by decide +kernel)]; kernel_rfl) | (rw [if_neg (by decide +kernel)]; exact ⟨rfl, rfl⟩))
    (fun os started H enc _ F => by rw [OpenClaim.pre_eq_preRow]; exact adds_lifted os started H enc F)
theorem adds_plain (f : FuncId) (fn : Func) (hf : Tryd.pinned.checked.prog.funcNamed Rows.tamperTimeAddsRow.func = some f) (hfn : Tryd.pinned.checked.prog.funcs[f]? = some fn) :
    false = Tryd.pinned.checked.prog.looks [] ∧ ∀ (j : Nat) t, fn.params[j]? = some t → Tryd.pinned.checked.prog.wantsStandIn t = false := by
  obtain rfl : f = 5 := Option.some.inj ((show Tryd.prog.funcNamed Rows.tamperTimeAddsRow.func = some 5 by kernel_rfl).symm.trans hf) |>.symm
  obtain rfl : fn = Tryd.f5 := (Option.some.inj (Tryd.func5.symm.trans hfn)).symm
  refine ⟨by kernel_rfl, fun j t ht => ?_⟩
  have h : (Tryd.f5.params.toList.all fun t => !Tryd.prog.wantsStandIn t) = true := by kernel_rfl
  have := List.all_eq_true.1 h t (by simpa using Array.mem_of_getElem? ht)
  exact (show Tryd.prog.wantsStandIn t = false by simpa using this)
/-- TamperTimeAdds holds of the program -/
theorem adds_card : Rows.TamperTimeAddsCardSaid :=
  Claim7.holds_tied_plain_at .later [] _ _ _ _ adds_said (fun _ h => by cases h) (by kernel_rfl) (fun _ h => by cases h) tamperTimeAdds_row_tie rfl ⟨rfl, rfl⟩ (by kernel_rfl) rfl adds_plain (by kernel_rfl)

end Go.Proofs.YtflkcganpgjkkaaDoor
