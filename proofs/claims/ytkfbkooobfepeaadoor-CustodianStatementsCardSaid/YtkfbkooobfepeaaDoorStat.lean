/- The law CustodianStatements of layer 30, as the statement has it: it holds of the program. -/
import Derived.Test.YtkfbkooobfepeaaDoorQf
namespace Go.Proofs.YtkfbkooobfepeaaDoor
open Go Go.Sx Sf Go.ChangeShapes Go.WideShapes
set_option maxRecDepth 100000
set_option linter.unusedSimpArgs false
set_option linter.unusedVariables false

theorem parts_of {n n' : Nat} {vs : List SV} {m : Mem} (h : Opn (List.replicate 16 (.t (.i .u8)) ++ (List.replicate 16 (.t (.i .u8)) ++ [.t (.i .i64), .t (.i .i64), .t (.i .i64)])) n vs m n') :
    ∃ (d c : List UInt8) (e r v : Int), (d.length = 16 ∧ c.length = 16 ∧ R64 e ∧ R64 r ∧ R64 v) ∧ vs = parts d c e r v ∧ m = [] ∧ n' = n := by
  obtain ⟨d, vs1, hd, q1, h1⟩ := opn_u8s 16 h
  obtain ⟨c, vs2, hc, q2, h2⟩ := opn_u8s 16 h1
  simp only [Opn, TagSV] at h2
  obtain ⟨_, _, q3, ⟨e, rfl, he⟩, _, _, rfl, ⟨r, rfl, hr⟩, _, _, rfl, ⟨v, rfl, hv⟩, rfl, rfl, rfl⟩ := h2
  rw [q3] at q2
  rw [q2] at q1
  exact ⟨d, c, e, r, v, ⟨hd, hc, i64_range he, i64_range hr, i64_range hv⟩, q1, rfl, rfl⟩
/-- the witness -/
def wP : Value := .agg (List.replicate 32 (Value.int .u8 0) ++ List.replicate 3 (Value.int .i64 0)).toArray
def wD {H : Type} : DataW H := .agg [.agg (List.replicate 16 (.lit (.int .u8 0))), .agg (List.replicate 16 (.lit (.int .u8 0))), .lit (.int .i64 0), .lit (.int .i64 0), .lit (.int .i64 0)]

theorem stat_met (os : Os) : laidMet Tryd.prog Rows.custodianStatementsRow.laid ((laidWorld os).forCall (fun _ _ => 0) ⟨#[], #[wP, wP], []⟩).memory :=
  laidMet_of_run' 8 (by kernel_rfl) (by kernel_rfl)
theorem stat_reads (os : Os) {H : Type} (enc : TypeId × Value → H) : ∃ places, DataW.whole enc Tryd.prog ((laidWorld os).forCall (fun _ _ => 0) ⟨#[], #[wP, wP], []⟩).memory Tryd.f5.params.toList Rows.custodianStatementsSpec.vars false
    (#[wP, wP] : Array Value).toList 8 = some ([wD, wD], [], places) :=
  ⟨[], by kernel_rfl⟩
theorem stat_lay : argLay Tryd.prog 8 Tryd.f5.params.toList = some [(true, (List.replicate 16 (.t (.i .u8)) ++ (List.replicate 16 (.t (.i .u8)) ++ [.t (.i .i64), .t (.i .i64), .t (.i .i64)]))), (true, (List.replicate 16 (.t (.i .u8)) ++ (List.replicate 16 (.t (.i .u8)) ++ [.t (.i .i64), .t (.i .i64), .t (.i .i64)])))] := by kernel_rfl
theorem stat_spec {H : Type} : ∀ ds : List (DataW H), ds.length = Tryd.f5.params.toList.length → (Rows.custodianStatementsSpec.fn H ds).results = [.lit (.bool true)] ∧ (Rows.custodianStatementsSpec.fn H ds).args = ds ∧ (Rows.custodianStatementsSpec.fn H ds).vars = [] := by
  intro ds h
  have e : Tryd.f5.params.toList.length = 2 := by kernel_rfl
  rw [e] at h
  match ds, h with
  | [d1, d2], _ => exact ⟨rfl, rfl, rfl⟩
theorem stat_fun : ∀ svs m n, Opns [(true, (List.replicate 16 (.t (.i .u8)) ++ (List.replicate 16 (.t (.i .u8)) ++ [.t (.i .i64), .t (.i .i64), .t (.i .i64)]))), (true, (List.replicate 16 (.t (.i .u8)) ++ (List.replicate 16 (.t (.i .u8)) ++ [.t (.i .i64), .t (.i .i64), .t (.i .i64)])))] 0 svs m n → Fun Tryd.prog tH 5 svs m n (.bool true) [] n := by
  intro svs m n h
  simp only [Opns] at h
  obtain ⟨_, _, _, _, _, rfl, rfl, h1, _, _, _, _, _, rfl, rfl, h2, rfl, rfl, rfl⟩ := h
  obtain ⟨d, c, e, r, v, ⟨hd, hc, he, hr, hv⟩, rfl, rfl, rfl⟩ := parts_of h1
  obtain ⟨d', c', e', r', v', ⟨hd', hc', he', hr', hv'⟩, rfl, rfl, rfl⟩ := parts_of h2
  exact f5 d c d' c' e r v e' r' v' hd hd' hc hc' he hr hv he' hr' hv'

theorem stat_lifted (os : Os) (started : os.Started) (H : Type) (enc : TypeId × Value → H) (F : Stop.Interp) :
    ReturnsInHanded {} Tryd.checked os 5 .any ((OpenSpec.ofChange Rows.custodianStatementsSpec).preRow enc Tryd.prog Tryd.f5 Rows.custodianStatementsRow.domain false Rows.custodianStatementsRow.laid) (((OpenSpec.ofChange Rows.custodianStatementsSpec).at F).post enc Tryd.prog Tryd.f5 false true false false) := by
  obtain ⟨places, hx⟩ := stat_reads os enc
  refine returnsInHanded_of_row (C := Tryd.checked) (s := OpenSpec.ofChange Rows.custodianStatementsSpec) own started (by kernel_rfl) Tryd.func5
    (witness_row_at (enc := enc) (C := Tryd.checked) false (laidWorld os) #[wP, wP] rfl (by kernel_rfl) (by kernel_rfl) (by kernel_rfl)
      (OpenSpec.preRow_of_cond 8 hx (by kernel_rfl) (fun k hk => by cases hk) (by kernel_rfl) (stat_met os))) ?_
  intro W base args ds gs before hval hW _ _ _ hL _ _
  exact law_of_fun (d := 8) (tb := 4) (s := Rows.custodianStatementsSpec) stat_lay rfl (by kernel_rfl) boolT stat_spec stat_fun (table hL) (table0 hL) hval hW
theorem stat_said : Rows.CustodianStatementsSaid :=
  OpenClaim.holds_of_cond 5 Tryd.f5 rfl rfl rfl rfl rfl rfl rfl ⟨rfl, rfl, rfl, rfl, rfl⟩ rfl rfl rfl rfl rfl (by kernel_rfl) Tryd.func5 (by kernel_rfl)
    (of_decide_eq_true (by kernel_rfl)) (by unfold Func.isWrapper; first | (rw [if_pos (by decide +kernel)]; kernel_rfl) | (rw [if_neg (by decide +kernel)]; exact ⟨rfl, rfl⟩))
    (fun os started H enc _ F => by rw [OpenClaim.pre_eq_preRow]; exact stat_lifted os started H enc F)
theorem stat_plain (f : FuncId) (fn : Func) (hf : Tryd.pinned.checked.prog.funcNamed Rows.custodianStatementsRow.func = some f) (hfn : Tryd.pinned.checked.prog.funcs[f]? = some fn) :
    false = Tryd.pinned.checked.prog.looks [] ∧ ∀ (j : Nat) t, fn.params[j]? = some t → Tryd.pinned.checked.prog.wantsStandIn t = false := by
  obtain rfl : f = 5 := Option.some.inj ((show Tryd.prog.funcNamed Rows.custodianStatementsRow.func = some 5 by kernel_rfl).symm.trans hf) |>.symm
  obtain rfl : fn = Tryd.f5 := (Option.some.inj (Tryd.func5.symm.trans hfn)).symm
  refine ⟨by kernel_rfl, fun j t ht => ?_⟩
  have h : (Tryd.f5.params.toList.all fun t => !Tryd.prog.wantsStandIn t) = true := by kernel_rfl
  have := List.all_eq_true.1 h t (by simpa using Array.mem_of_getElem? ht)
  exact (show Tryd.prog.wantsStandIn t = false by simpa using this)
/-- CustodianStatements holds of the program -/
theorem stat_card : Rows.CustodianStatementsCardSaid :=
  Claim7.holds_tied_plain_at .later [] _ _ _ _ stat_said (fun _ h => by cases h) (by kernel_rfl) (fun _ h => by cases h) custodianStatements_row_tie rfl ⟨rfl, rfl⟩ (by kernel_rfl) rfl stat_plain (by kernel_rfl)

end Go.Proofs.YtkfbkooobfepeaaDoor
