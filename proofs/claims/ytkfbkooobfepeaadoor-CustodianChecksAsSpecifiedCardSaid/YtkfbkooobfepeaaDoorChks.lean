/- The law CustodianChecksAsSpecified of layer 30, as the statement has it: it holds of the program. -/
import Derived.Test.YtkfbkooobfepeaaDoorUj
namespace Go.Proofs.YtkfbkooobfepeaaDoor
open Go Go.Sx Sf Go.ChangeShapes Go.WideShapes
set_option maxRecDepth 100000
set_option linter.unusedSimpArgs false
set_option linter.unusedVariables false

theorem chks_met (os : Os) : laidMet Tryd.prog Rows.custodianChecksAsSpecifiedRow.laid ((laidWorld2 os).forCall (fun _ _ => 0) ⟨#[], #[.agg #[.int .i64 0, .int .i64 0, .slice none 0 0], .int .i64 0, .string ⟨#[]⟩, .string ⟨#[]⟩], []⟩).memory :=
  laidMet_of_run' 8 (by kernel_rfl) (by kernel_rfl)
theorem chks_reads (os : Os) {H : Type} (enc : TypeId × Value → H) : ∃ places, DataW.whole enc Tryd.prog ((laidWorld2 os).forCall (fun _ _ => 0) ⟨#[], #[.agg #[.int .i64 0, .int .i64 0, .slice none 0 0], .int .i64 0, .string ⟨#[]⟩, .string ⟨#[]⟩], []⟩).memory Tryd.f4.params.toList Rows.custodianChecksAsSpecifiedSpec.vars false
    (#[.agg #[.int .i64 0, .int .i64 0, .slice none 0 0], .int .i64 0, .string ⟨#[]⟩, .string ⟨#[]⟩] : Array Value).toList 8 = some ([.agg [.lit (.int .i64 0), .lit (.int .i64 0), .nil], .lit (.int .i64 0), .lit (.string []), .lit (.string [])], [], places) :=
  ⟨[], by kernel_rfl⟩
theorem chks_lay : argLay Tryd.prog 8 Tryd.f4.params.toList = some [(true, [.t (.i .i64), .t (.i .i64), .sl tgM]), (false, [.t (.i .i64)]), (false, [.t .s]), (false, [.t .s])] := by kernel_rfl
theorem chks_spec {H : Type} : ∀ ds : List (DataW H), ds.length = Tryd.f4.params.toList.length → (Rows.custodianChecksAsSpecifiedSpec.fn H ds).results = [.lit (.bool true)] ∧ (Rows.custodianChecksAsSpecifiedSpec.fn H ds).args = ds ∧ (Rows.custodianChecksAsSpecifiedSpec.fn H ds).vars = [] := by
  intro ds h
  have e : Tryd.f4.params.toList.length = 4 := by kernel_rfl
  rw [e] at h
  match ds, h with
  | [d1, d2, d3, d4], _ => exact ⟨rfl, rfl, rfl⟩
theorem chks_fun : ∀ svs m n, Opns [(true, [.t (.i .i64), .t (.i .i64), .sl tgM]), (false, [.t (.i .i64)]), (false, [.t .s]), (false, [.t .s])] 0 svs m n → Fun Tryd.prog tH2 4 svs m n (.bool true) [] n := by
  intro svs m n h
  simp only [Opns, Opn, TagSV] at h
  obtain ⟨_, _, _, _, _, rfl, rfl, ⟨_, _, rfl, ⟨e, rfl, he⟩, _, _, rfl, ⟨x, rfl, hx⟩, len, cells, _, _, rfl, rfl, hl, hrows, rfl, rfl, rfl⟩, _, _, _, _, _, rfl, rfl, ⟨_, _, e1, ⟨w, rfl, _⟩, rfl, rfl, rfl⟩, _, _, _, _, _, rfl, rfl, ⟨_, _, e2, ⟨s, rfl, _⟩, rfl, rfl, rfl⟩, _, _, _, _, _, rfl, rfl, ⟨_, _, e3, ⟨t, rfl, _⟩, rfl, rfl, rfl⟩, rfl, rfl, rfl⟩ := h
  cases e1
  cases e2
  cases e3
  obtain ⟨l, rfl, rfl, hG⟩ := rows_mcs _ hrows
  exact f4 e x w l s t hG.pub (by unfold maxLen at hl; exact hl)

theorem chks_lifted (os : Os) (started : os.Started) (H : Type) (enc : TypeId × Value → H) (F : Stop.Interp) :
    ReturnsInHanded {} Tryd.checked os 4 .any ((OpenSpec.ofChange Rows.custodianChecksAsSpecifiedSpec).preRow enc Tryd.prog Tryd.f4 Rows.custodianChecksAsSpecifiedRow.domain false Rows.custodianChecksAsSpecifiedRow.laid) (((OpenSpec.ofChange Rows.custodianChecksAsSpecifiedSpec).at F).post enc Tryd.prog Tryd.f4 false true false false) := by
  obtain ⟨places, hx⟩ := chks_reads os enc
  refine returnsInHanded_of_row (C := Tryd.checked) (s := OpenSpec.ofChange Rows.custodianChecksAsSpecifiedSpec) own started (by kernel_rfl) Tryd.func4
    (witness_row_at (enc := enc) (C := Tryd.checked) false (laidWorld2 os) #[.agg #[.int .i64 0, .int .i64 0, .slice none 0 0], .int .i64 0, .string ⟨#[]⟩, .string ⟨#[]⟩] rfl (by kernel_rfl) (by kernel_rfl) (by kernel_rfl)
      (OpenSpec.preRow_of_cond 8 hx (by kernel_rfl) (fun k hk => by cases hk) (by kernel_rfl) (chks_met os))) ?_
  intro W base args ds gs before hval hW _ _ _ hL _ _
  exact law_of_fun (d := 8) (tb := 4) (s := Rows.custodianChecksAsSpecifiedSpec) chks_lay rfl (by kernel_rfl) boolT chks_spec chks_fun (table2 hL) (table20 hL) hval hW
theorem chks_said : Rows.CustodianChecksAsSpecifiedSaid :=
  OpenClaim.holds_of_cond 4 Tryd.f4 rfl rfl rfl rfl rfl rfl rfl ⟨rfl, rfl, rfl, rfl, rfl⟩ rfl rfl rfl rfl rfl (by kernel_rfl) Tryd.func4 (by kernel_rfl)
    (of_decide_eq_true (by kernel_rfl)) (by unfold Func.isWrapper; first | (rw [if_pos (by decide +kernel)]; kernel_rfl) | (rw [if_neg (by decide +kernel)]; exact ⟨rfl, rfl⟩))
    (fun os started H enc _ F => by rw [OpenClaim.pre_eq_preRow]; exact chks_lifted os started H enc F)
theorem chks_plain (f : FuncId) (fn : Func) (hf : Tryd.pinned.checked.prog.funcNamed Rows.custodianChecksAsSpecifiedRow.func = some f) (hfn : Tryd.pinned.checked.prog.funcs[f]? = some fn) :
    false = Tryd.pinned.checked.prog.looks [] ∧ ∀ (j : Nat) t, fn.params[j]? = some t → Tryd.pinned.checked.prog.wantsStandIn t = false := by
  obtain rfl : f = 4 := Option.some.inj ((show Tryd.prog.funcNamed Rows.custodianChecksAsSpecifiedRow.func = some 4 by kernel_rfl).symm.trans hf) |>.symm
  obtain rfl : fn = Tryd.f4 := (Option.some.inj (Tryd.func4.symm.trans hfn)).symm
  refine ⟨by kernel_rfl, fun j t ht => ?_⟩
  have h : (Tryd.f4.params.toList.all fun t => !Tryd.prog.wantsStandIn t) = true := by kernel_rfl
  have := List.all_eq_true.1 h t (by simpa using Array.mem_of_getElem? ht)
  exact (show Tryd.prog.wantsStandIn t = false by simpa using this)
/-- CustodianChecksAsSpecified holds of the program -/
theorem chks_card : Rows.CustodianChecksAsSpecifiedCardSaid :=
  Claim7.holds_tied_plain_at .later [] _ _ _ _ chks_said (fun _ h => by cases h) (by kernel_rfl) (fun _ h => by cases h) custodianChecksAsSpecified_row_tie rfl ⟨rfl, rfl⟩ (by kernel_rfl) rfl chks_plain (by kernel_rfl)

end Go.Proofs.YtkfbkooobfepeaaDoor
