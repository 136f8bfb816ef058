/- The law CustodianMatchesSpec of layer 30, as the statement has it: it holds of the program. -/
import Derived.Test.YtkfbkooobfepeaaDoorUi
namespace Go.Proofs.YtkfbkooobfepeaaDoor
open Go Go.Sx Sf Go.ChangeShapes Go.WideShapes
set_option maxRecDepth 100000
set_option linter.unusedSimpArgs false
set_option linter.unusedVariables false

theorem mats_met (os : Os) : laidMet Tryd.prog Rows.custodianMatchesSpecRow.laid ((laidWorld2 os).forCall (fun _ _ => 0) ⟨#[], #[.agg #[.int .i64 0, .int .i64 0, .slice none 0 0], .int .i64 0, .agg #[.int .i64 0, .int .i64 0, .slice none 0 0]], []⟩).memory :=
  laidMet_of_run' 8 (by kernel_rfl) (by kernel_rfl)
theorem mats_reads (os : Os) {H : Type} (enc : TypeId × Value → H) : ∃ places, DataW.whole enc Tryd.prog ((laidWorld2 os).forCall (fun _ _ => 0) ⟨#[], #[.agg #[.int .i64 0, .int .i64 0, .slice none 0 0], .int .i64 0, .agg #[.int .i64 0, .int .i64 0, .slice none 0 0]], []⟩).memory Tryd.f3.params.toList Rows.custodianMatchesSpecSpec.vars false
    (#[.agg #[.int .i64 0, .int .i64 0, .slice none 0 0], .int .i64 0, .agg #[.int .i64 0, .int .i64 0, .slice none 0 0]] : Array Value).toList 8 = some ([.agg [.lit (.int .i64 0), .lit (.int .i64 0), .nil], .lit (.int .i64 0), .agg [.lit (.int .i64 0), .lit (.int .i64 0), .nil]], [], places) :=
  ⟨[], by kernel_rfl⟩
theorem mats_lay : argLay Tryd.prog 8 Tryd.f3.params.toList = some [(true, [.t (.i .i64), .t (.i .i64), .sl tgM]), (false, [.t (.i .i64)]), (true, [.t (.i .i64), .t (.i .i64), .sl tgM])] := by kernel_rfl
theorem mats_spec {H : Type} : ∀ ds : List (DataW H), ds.length = Tryd.f3.params.toList.length → (Rows.custodianMatchesSpecSpec.fn H ds).results = [.lit (.bool true)] ∧ (Rows.custodianMatchesSpecSpec.fn H ds).args = ds ∧ (Rows.custodianMatchesSpecSpec.fn H ds).vars = [] := by
  intro ds h
  have e : Tryd.f3.params.toList.length = 3 := by kernel_rfl
  rw [e] at h
  match ds, h with
  | [d1, d2, d3], _ => exact ⟨rfl, rfl, rfl⟩
theorem mats_fun : ∀ svs m n, Opns [(true, [.t (.i .i64), .t (.i .i64), .sl tgM]), (false, [.t (.i .i64)]), (true, [.t (.i .i64), .t (.i .i64), .sl tgM])] 0 svs m n → Fun Tryd.prog tH2 3 svs m n (.bool true) [] n := by
  intro svs m n h
  simp only [Opns, Opn, TagSV] at h
  obtain ⟨_, _, _, _, _, rfl, rfl, ⟨_, _, rfl, ⟨e, rfl, he⟩, _, _, rfl, ⟨x, rfl, hx⟩, len, cells, _, _, rfl, rfl, hl, hrows, rfl, rfl, rfl⟩, _, _, _, _, _, rfl, rfl, ⟨_, _, e1, ⟨w, rfl, _⟩, rfl, rfl, rfl⟩, _, _, _, _, _, rfl, rfl, ⟨_, _, rfl, ⟨e', rfl, _⟩, _, _, rfl, ⟨x', rfl, _⟩, len', cells', _, _, rfl, rfl, hl', hrows', rfl, rfl, rfl⟩, rfl, rfl, rfl⟩ := h
  cases e1
  obtain ⟨l, rfl, rfl, hG⟩ := rows_mcs _ hrows
  obtain ⟨l', rfl, rfl, hG'⟩ := rows_mcs _ hrows'
  exact f3 e x w e' x' l l' hG hG' (i64_range he) (i64_range hx) (by unfold maxLen at hl; exact hl) (by unfold maxLen at hl'; exact hl')

theorem mats_lifted (os : Os) (started : os.Started) (H : Type) (enc : TypeId × Value → H) (F : Stop.Interp) :
    ReturnsInHanded {} Tryd.checked os 3 .any ((OpenSpec.ofChange Rows.custodianMatchesSpecSpec).preRow enc Tryd.prog Tryd.f3 Rows.custodianMatchesSpecRow.domain false Rows.custodianMatchesSpecRow.laid) (((OpenSpec.ofChange Rows.custodianMatchesSpecSpec).at F).post enc Tryd.prog Tryd.f3 false true false false) := by
  obtain ⟨places, hx⟩ := mats_reads os enc
  refine returnsInHanded_of_row (C := Tryd.checked) (s := OpenSpec.ofChange Rows.custodianMatchesSpecSpec) own started (by kernel_rfl) Tryd.func3
    (witness_row_at (enc := enc) (C := Tryd.checked) false (laidWorld2 os) #[.agg #[.int .i64 0, .int .i64 0, .slice none 0 0], .int .i64 0, .agg #[.int .i64 0, .int .i64 0, .slice none 0 0]] rfl (by kernel_rfl) (by kernel_rfl) (by kernel_rfl)
      (OpenSpec.preRow_of_cond 8 hx (by kernel_rfl) (fun k hk => by cases hk) (by kernel_rfl) (mats_met os))) ?_
  intro W base args ds gs before hval hW _ _ _ hL _ _
  exact law_of_fun (d := 8) (tb := 4) (s := Rows.custodianMatchesSpecSpec) mats_lay rfl (by kernel_rfl) boolT mats_spec mats_fun (table2 hL) (table20 hL) hval hW
theorem mats_said : Rows.CustodianMatchesSpecSaid :=
  OpenClaim.holds_of_cond 3 Tryd.f3 rfl rfl rfl rfl rfl rfl rfl ⟨rfl, rfl, rfl, rfl, rfl⟩ rfl rfl rfl rfl rfl (by kernel_rfl) Tryd.func3 (by kernel_rfl)
    (of_decide_eq_true (by kernel_rfl)) (by unfold Func.isWrapper; first | (rw [if_pos (by decide +kernel)]; kernel_rfl) | (rw [if_neg (by decide +kernel)]; exact ⟨rfl, rfl⟩))
    (fun os started H enc _ F => by rw [OpenClaim.pre_eq_preRow]; exact mats_lifted os started H enc F)
theorem mats_plain (f : FuncId) (fn : Func) (hf : Tryd.pinned.checked.prog.funcNamed Rows.custodianMatchesSpecRow.func = some f) (hfn : Tryd.pinned.checked.prog.funcs[f]? = some fn) :
    false = Tryd.pinned.checked.prog.looks [] ∧ ∀ (j : Nat) t, fn.params[j]? = some t → Tryd.pinned.checked.prog.wantsStandIn t = false := by
  obtain rfl : f = 3 := Option.some.inj ((show Tryd.prog.funcNamed Rows.custodianMatchesSpecRow.func = some 3 by kernel_rfl).symm.trans hf) |>.symm
  obtain rfl : fn = Tryd.f3 := (Option.some.inj (Tryd.func3.symm.trans hfn)).symm
  refine ⟨by kernel_rfl, fun j t ht => ?_⟩
  have h : (Tryd.f3.params.toList.all fun t => !Tryd.prog.wantsStandIn t) = true := by kernel_rfl
  have := List.all_eq_true.1 h t (by simpa using Array.mem_of_getElem? ht)
  exact (show Tryd.prog.wantsStandIn t = false by simpa using this)
/-- CustodianMatchesSpec holds of the program -/
theorem mats_card : Rows.CustodianMatchesSpecCardSaid :=
  Claim7.holds_tied_plain_at .later [] _ _ _ _ mats_said (fun _ h => by cases h) (by kernel_rfl) (fun _ h => by cases h) custodianMatchesSpec_row_tie rfl ⟨rfl, rfl⟩ (by kernel_rfl) rfl mats_plain (by kernel_rfl)

end Go.Proofs.YtkfbkooobfepeaaDoor
