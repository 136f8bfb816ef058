/- The law CustodianDecode of layer 30, as the statement has it: it holds of the program. -/
import Derived.Test.YtkfbkooobfepeaaDoorUi
namespace Go.Proofs.YtkfbkooobfepeaaDoor
open Go Go.Sx Sf Go.ChangeShapes Go.WideShapes
set_option maxRecDepth 100000
set_option linter.unusedSimpArgs false
set_option linter.unusedVariables false

theorem deco_met (os : Os) : laidMet Tryd.prog Rows.custodianDecodeRow.laid ((laidWorld os).forCall (fun _ _ => 0) ⟨#[], #[.string ⟨#[]⟩, .agg #[.int .i64 0, .int .i64 0, .slice none 0 0]], []⟩).memory :=
  laidMet_of_run' 8 (by kernel_rfl) (by kernel_rfl)
theorem deco_reads (os : Os) {H : Type} (enc : TypeId × Value → H) : ∃ places, DataW.whole enc Tryd.prog ((laidWorld os).forCall (fun _ _ => 0) ⟨#[], #[.string ⟨#[]⟩, .agg #[.int .i64 0, .int .i64 0, .slice none 0 0]], []⟩).memory Tryd.f7.params.toList Rows.custodianDecodeSpec.vars false
    (#[.string ⟨#[]⟩, .agg #[.int .i64 0, .int .i64 0, .slice none 0 0]] : Array Value).toList 8 = some ([.lit (.string []), .agg [.lit (.int .i64 0), .lit (.int .i64 0), .nil]], [], places) :=
  ⟨[], by kernel_rfl⟩
theorem deco_lay : argLay Tryd.prog 8 Tryd.f7.params.toList = some [(false, [.t .s]), (true, [.t (.i .i64), .t (.i .i64), .sl tgM])] := by kernel_rfl
theorem deco_spec {H : Type} : ∀ ds : List (DataW H), ds.length = Tryd.f7.params.toList.length → (Rows.custodianDecodeSpec.fn H ds).results = [.lit (.bool true)] ∧ (Rows.custodianDecodeSpec.fn H ds).args = ds ∧ (Rows.custodianDecodeSpec.fn H ds).vars = [] := by
  intro ds h
  have e : Tryd.f7.params.toList.length = 2 := by kernel_rfl
  rw [e] at h
  match ds, h with
  | [d1, d2], _ => exact ⟨rfl, rfl, rfl⟩
theorem deco_fun : ∀ svs m n, Opns [(false, [.t .s]), (true, [.t (.i .i64), .t (.i .i64), .sl tgM])] 0 svs m n → Fun Tryd.prog tH 7 svs m n (.bool true) [] n := by
  intro svs m n h
  simp only [Opns, Opn, TagSV] at h
  obtain ⟨_, _, _, _, _, rfl, rfl, ⟨_, _, e1, ⟨t, rfl, _⟩, rfl, rfl, rfl⟩, _, _, _, _, _, rfl, rfl, ⟨_, _, rfl, ⟨e, rfl, he⟩, _, _, rfl, ⟨x, rfl, hx⟩, len, cells, _, _, rfl, rfl, hl, hrows, rfl, rfl, rfl⟩, rfl, rfl, rfl⟩ := h
  cases e1
  obtain ⟨l, rfl, rfl, hG⟩ := rows_mcs _ hrows
  exact f7 t e x l hG.pub (fun m hm => (hG m hm).2.1) (i64_range he) (i64_range hx) (by unfold maxLen at hl; exact hl)

theorem deco_lifted (os : Os) (started : os.Started) (H : Type) (enc : TypeId × Value → H) (F : Stop.Interp) :
    ReturnsInHanded {} Tryd.checked os 7 .any ((OpenSpec.ofChange Rows.custodianDecodeSpec).preRow enc Tryd.prog Tryd.f7 Rows.custodianDecodeRow.domain false Rows.custodianDecodeRow.laid) (((OpenSpec.ofChange Rows.custodianDecodeSpec).at F).post enc Tryd.prog Tryd.f7 false true false false) := by
  obtain ⟨places, hx⟩ := deco_reads os enc
  refine returnsInHanded_of_row (C := Tryd.checked) (s := OpenSpec.ofChange Rows.custodianDecodeSpec) own started (by kernel_rfl) Tryd.func7
    (witness_row_at (enc := enc) (C := Tryd.checked) false (laidWorld os) #[.string ⟨#[]⟩, .agg #[.int .i64 0, .int .i64 0, .slice none 0 0]] rfl (by kernel_rfl) (by kernel_rfl) (by kernel_rfl)
      (OpenSpec.preRow_of_cond 8 hx (by kernel_rfl) (fun k hk => by cases hk) (by kernel_rfl) (deco_met os))) ?_
  intro W base args ds gs before hval hW _ _ _ hL _ _
  exact law_of_fun (d := 8) (tb := 4) (s := Rows.custodianDecodeSpec) deco_lay rfl (by kernel_rfl) boolT deco_spec deco_fun (table hL) (table0 hL) hval hW
theorem deco_said : Rows.CustodianDecodeSaid :=
  OpenClaim.holds_of_cond 7 Tryd.f7 rfl rfl rfl rfl rfl rfl rfl ⟨rfl, rfl, rfl, rfl, rfl⟩ rfl rfl rfl rfl rfl (by kernel_rfl) Tryd.func7 (by kernel_rfl)
    (of_decide_eq_true (by kernel_rfl)) (by unfold Func.isWrapper; first | (rw [if_pos (by decide +kernel)]; kernel_rfl) | (rw [if_neg (by decide +kernel)]; exact ⟨rfl, rfl⟩))
    (fun os started H enc _ F => by rw [OpenClaim.pre_eq_preRow]; exact deco_lifted os started H enc F)
theorem deco_plain (f : FuncId) (fn : Func) (hf : Tryd.pinned.checked.prog.funcNamed Rows.custodianDecodeRow.func = some f) (hfn : Tryd.pinned.checked.prog.funcs[f]? = some fn) :
    false = Tryd.pinned.checked.prog.looks [] ∧ ∀ (j : Nat) t, fn.params[j]? = some t → Tryd.pinned.checked.prog.wantsStandIn t = false := by
  obtain rfl : f = 7 := Option.some.inj ((show Tryd.prog.funcNamed Rows.custodianDecodeRow.func = some 7 by kernel_rfl).symm.trans hf) |>.symm
  obtain rfl : fn = Tryd.f7 := (Option.some.inj (Tryd.func7.symm.trans hfn)).symm
  refine ⟨by kernel_rfl, fun j t ht => ?_⟩
  have h : (Tryd.f7.params.toList.all fun t => !Tryd.prog.wantsStandIn t) = true := by kernel_rfl
  have := List.all_eq_true.1 h t (by simpa using Array.mem_of_getElem? ht)
  exact (show Tryd.prog.wantsStandIn t = false by simpa using this)
/-- CustodianDecode holds of the program -/
theorem deco_card : Rows.CustodianDecodeCardSaid :=
  Claim7.holds_tied_plain_at .later [] _ _ _ _ deco_said (fun _ h => by cases h) (by kernel_rfl) (fun _ h => by cases h) custodianDecode_row_tie rfl ⟨rfl, rfl⟩ (by kernel_rfl) rfl deco_plain (by kernel_rfl)

end Go.Proofs.YtkfbkooobfepeaaDoor
