/- The law CustodianReplaced of layer 30, as the statement has it: it holds of the program. -/
import Derived.Test.YtkfbkooobfepeaaDoorQi
namespace Go.Proofs.YtkfbkooobfepeaaDoor
open Go Go.Sx Sf Go.ChangeShapes Go.WideShapes
set_option maxRecDepth 100000
set_option linter.unusedSimpArgs false
set_option linter.unusedVariables false

theorem repl_met (os : Os) : laidMet Tryd.prog Rows.custodianReplacedRow.laid ((laidWorld os).forCall (fun _ _ => 0) ⟨#[], #[.agg #[.int .i64 0, .int .i64 0, .slice none 0 0], .int .i64 0, .slice none 0 0], []⟩).memory :=
  laidMet_of_run' 8 (by kernel_rfl) (by kernel_rfl)
theorem repl_reads (os : Os) {H : Type} (enc : TypeId × Value → H) : ∃ places, DataW.whole enc Tryd.prog ((laidWorld os).forCall (fun _ _ => 0) ⟨#[], #[.agg #[.int .i64 0, .int .i64 0, .slice none 0 0], .int .i64 0, .slice none 0 0], []⟩).memory Tryd.f6.params.toList Rows.custodianReplacedSpec.vars false
    (#[.agg #[.int .i64 0, .int .i64 0, .slice none 0 0], .int .i64 0, .slice none 0 0] : Array Value).toList 8 = some ([.agg [.lit (.int .i64 0), .lit (.int .i64 0), .nil], .lit (.int .i64 0), .nil], [], places) :=
  ⟨[], by kernel_rfl⟩
theorem repl_lay : argLay Tryd.prog 8 Tryd.f6.params.toList = some [(true, [.t (.i .i64), .t (.i .i64), .sl tgM]), (false, [.t (.i .i64)]), (false, [.sl tgM])] := by kernel_rfl
theorem repl_spec {H : Type} : ∀ ds : List (DataW H), ds.length = Tryd.f6.params.toList.length → (Rows.custodianReplacedSpec.fn H ds).results = [.lit (.bool true)] ∧ (Rows.custodianReplacedSpec.fn H ds).args = ds ∧ (Rows.custodianReplacedSpec.fn H ds).vars = [] := by
  intro ds h
  have e : Tryd.f6.params.toList.length = 3 := by kernel_rfl
  rw [e] at h
  match ds, h with
  | [d1, d2, d3], _ => exact ⟨rfl, rfl, rfl⟩
theorem repl_fun : ∀ svs m n, Opns [(true, [.t (.i .i64), .t (.i .i64), .sl tgM]), (false, [.t (.i .i64)]), (false, [.sl tgM])] 0 svs m n → Fun Tryd.prog tH 6 svs m n (.bool true) [] n := by
  intro svs m n h
  simp only [Opns, Opn, TagSV] at h
  obtain ⟨_, _, _, _, _, rfl, rfl, ⟨_, _, rfl, ⟨e, rfl, _⟩, _, _, rfl, ⟨x, rfl, _⟩, len, cells, _, _, rfl, rfl, hl, hrows, rfl, rfl, rfl⟩, _, _, _, _, _, rfl, rfl, ⟨_, _, e1, ⟨w, rfl, _⟩, rfl, rfl, rfl⟩, _, _, _, _, _, rfl, rfl, ⟨len', cells', _, _, e2, rfl, hl', hrows', rfl, rfl, rfl⟩, rfl, rfl, rfl⟩ := h
  cases e1; cases e2
  obtain ⟨l, rfl, rfl, hG⟩ := rows_mcs _ hrows
  obtain ⟨l', rfl, rfl, hG'⟩ := rows_mcs _ hrows'
  exact f6 e x w l l' hG.pub hG'.pub (by unfold maxLen at hl; exact hl) (by unfold maxLen at hl'; exact hl')

theorem repl_lifted (os : Os) (started : os.Started) (H : Type) (enc : TypeId × Value → H) (F : Stop.Interp) :
    ReturnsInHanded {} Tryd.checked os 6 .any ((OpenSpec.ofChange Rows.custodianReplacedSpec).preRow enc Tryd.prog Tryd.f6 Rows.custodianReplacedRow.domain false Rows.custodianReplacedRow.laid) (((OpenSpec.ofChange Rows.custodianReplacedSpec).at F).post enc Tryd.prog Tryd.f6 false true false false) := by
  obtain ⟨places, hx⟩ := repl_reads os enc
  refine returnsInHanded_of_row (C := Tryd.checked) (s := OpenSpec.ofChange Rows.custodianReplacedSpec) own started (by kernel_rfl) Tryd.func6
    (witness_row_at (enc := enc) (C := Tryd.checked) false (laidWorld os) #[.agg #[.int .i64 0, .int .i64 0, .slice none 0 0], .int .i64 0, .slice none 0 0] rfl (by kernel_rfl) (by kernel_rfl) (by kernel_rfl)
      (OpenSpec.preRow_of_cond 8 hx (by kernel_rfl) (fun k hk => by cases hk) (by kernel_rfl) (repl_met os))) ?_
  intro W base args ds gs before hval hW _ _ _ hL _ _
  exact law_of_fun (d := 8) (tb := 4) (s := Rows.custodianReplacedSpec) repl_lay rfl (by kernel_rfl) boolT repl_spec repl_fun (table hL) (table0 hL) hval hW
theorem repl_said : Rows.CustodianReplacedSaid :=
  OpenClaim.holds_of_cond 6 Tryd.f6 rfl rfl rfl rfl rfl rfl rfl ⟨rfl, rfl, rfl, rfl, rfl⟩ rfl rfl rfl rfl rfl (by kernel_rfl) Tryd.func6 (by kernel_rfl)
    (of_decide_eq_true (by kernel_rfl)) (by unfold Func.isWrapper; first | (rw [if_pos (by decide +kernel)]; kernel_rfl) | (rw [if_neg (by decide +kernel)]; exact ⟨rfl, rfl⟩))
    (fun os started H enc _ F => by rw [OpenClaim.pre_eq_preRow]; exact repl_lifted os started H enc F)
theorem repl_plain (f : FuncId) (fn : Func) (hf : Tryd.pinned.checked.prog.funcNamed Rows.custodianReplacedRow.func = some f) (hfn : Tryd.pinned.checked.prog.funcs[f]? = some fn) :
    false = Tryd.pinned.checked.prog.looks [] ∧ ∀ (j : Nat) t, fn.params[j]? = some t → Tryd.pinned.checked.prog.wantsStandIn t = false := by
  obtain rfl : f = 6 := Option.some.inj ((show Tryd.prog.funcNamed Rows.custodianReplacedRow.func = some 6 by kernel_rfl).symm.trans hf) |>.symm
  obtain rfl : fn = Tryd.f6 := (Option.some.inj (Tryd.func6.symm.trans hfn)).symm
  refine ⟨by kernel_rfl, fun j t ht => ?_⟩
  have h : (Tryd.f6.params.toList.all fun t => !Tryd.prog.wantsStandIn t) = true := by kernel_rfl
  have := List.all_eq_true.1 h t (by simpa using Array.mem_of_getElem? ht)
  exact (show Tryd.prog.wantsStandIn t = false by simpa using this)
/-- CustodianReplaced holds of the program -/
theorem repl_card : Rows.CustodianReplacedCardSaid :=
  Claim7.holds_tied_plain_at .later [] _ _ _ _ repl_said (fun _ h => by cases h) (by kernel_rfl) (fun _ h => by cases h) custodianReplaced_row_tie rfl ⟨rfl, rfl⟩ (by kernel_rfl) rfl repl_plain (by kernel_rfl)

end Go.Proofs.YtkfbkooobfepeaaDoor
