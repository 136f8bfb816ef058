/- The law CustodianApproves of layer 30, as the statement has it: it holds of the program. -/
import Derived.Test.YtkfbkooobfepeaaGreatDoorUj
namespace Go.Proofs.YtkfbkooobfepeaaGreatDoor
open Go Go.Sx Sf Go.ChangeShapes Go.WideShapes
set_option maxRecDepth 100000
set_option linter.unusedSimpArgs false
set_option linter.unusedVariables false

theorem parts_of {n n' : Nat} {vs : List SV} {m : Mem} (h : Opn (List.replicate 16 (.t (.i .u8)) ++ (List.replicate 16 (.t (.i .u8)) ++ [.t (.i .i64), .t (.i .i64), .t (.i .i64)])) n vs m n') :
    ∃ (d c : List UInt8) (e r v : Int), (d.length = 16 ∧ c.length = 16) ∧ vs = parts d c e r v ∧ m = [] ∧ n' = n := by
  obtain ⟨d, vs1, hd, q1, h1⟩ := opn_u8s 16 h
  obtain ⟨c, vs2, hc, q2, h2⟩ := opn_u8s 16 h1
  simp only [Opn, TagSV] at h2
  obtain ⟨_, _, q3, ⟨e, rfl, he⟩, _, _, rfl, ⟨r, rfl, hr⟩, _, _, rfl, ⟨v, rfl, hv⟩, rfl, rfl, rfl⟩ := h2
  rw [q3] at q2
  rw [q2] at q1
  exact ⟨d, c, e, r, v, ⟨hd, hc⟩, q1, rfl, rfl⟩
/-- the witness -/
def wP : Value := .agg (List.replicate 32 (Value.int .u8 0) ++ List.replicate 3 (Value.int .i64 0)).toArray
def wD {H : Type} : DataW H := .agg [.agg (List.replicate 16 (.lit (.int .u8 0))), .agg (List.replicate 16 (.lit (.int .u8 0))), .lit (.int .i64 0), .lit (.int .i64 0), .lit (.int .i64 0)]

theorem appr_met (os : Os) : laidMet Tryz.prog Rows.custodianApprovesRow.laid ((laidWorld2 os).forCall (fun _ _ => 0) ⟨#[], #[.string ⟨#[]⟩, .int .i64 0, .int .i64 0, wP, wP], []⟩).memory :=
  laidMet_of_run' 8 (by kernel_rfl) (by kernel_rfl)
theorem appr_reads (os : Os) {H : Type} (enc : TypeId × Value → H) : ∃ places, DataW.whole enc Tryz.prog ((laidWorld2 os).forCall (fun _ _ => 0) ⟨#[], #[.string ⟨#[]⟩, .int .i64 0, .int .i64 0, wP, wP], []⟩).memory Tryz.f3.params.toList Rows.custodianApprovesSpec.vars false
    (#[.string ⟨#[]⟩, .int .i64 0, .int .i64 0, wP, wP] : Array Value).toList 8 = some ([.lit (.string []), .lit (.int .i64 0), .lit (.int .i64 0), wD, wD], [], places) :=
  ⟨[], by kernel_rfl⟩
theorem appr_lay : argLay Tryz.prog 8 Tryz.f3.params.toList = some [(false, [.t .s]), (false, [.t (.i .i64)]), (false, [.t (.i .i64)]), (true, (List.replicate 16 (.t (.i .u8)) ++ (List.replicate 16 (.t (.i .u8)) ++ [.t (.i .i64), .t (.i .i64), .t (.i .i64)]))), (true, (List.replicate 16 (.t (.i .u8)) ++ (List.replicate 16 (.t (.i .u8)) ++ [.t (.i .i64), .t (.i .i64), .t (.i .i64)])))] := by kernel_rfl
theorem appr_spec {H : Type} : ∀ ds : List (DataW H), ds.length = Tryz.f3.params.toList.length → (Rows.custodianApprovesSpec.fn H ds).results = [.lit (.bool true)] ∧ (Rows.custodianApprovesSpec.fn H ds).args = ds ∧ (Rows.custodianApprovesSpec.fn H ds).vars = [] := by
  intro ds h
  have e : Tryz.f3.params.toList.length = 5 := by kernel_rfl
  rw [e] at h
  match ds, h with
  | [d1, d2, d3, d4, d5], _ => exact ⟨rfl, rfl, rfl⟩
theorem appr_fun : ∀ svs m n, Opns [(false, [.t .s]), (false, [.t (.i .i64)]), (false, [.t (.i .i64)]), (true, (List.replicate 16 (.t (.i .u8)) ++ (List.replicate 16 (.t (.i .u8)) ++ [.t (.i .i64), .t (.i .i64), .t (.i .i64)]))), (true, (List.replicate 16 (.t (.i .u8)) ++ (List.replicate 16 (.t (.i .u8)) ++ [.t (.i .i64), .t (.i .i64), .t (.i .i64)])))] 0 svs m n → Fun Tryz.prog tH2 3 svs m n (.bool true) [] n := by
  intro svs m n h
  simp only [Opns] at h
  obtain ⟨_, _, _, _, _, rfl, rfl, h1, _, _, _, _, _, rfl, rfl, h2, _, _, _, _, _, rfl, rfl, h3, _, _, _, _, _, rfl, rfl, h4, _, _, _, _, _, rfl, rfl, h5, rfl, rfl, rfl⟩ := h
  simp only [Opn, TagSV] at h1 h2 h3
  obtain ⟨_, _, e1, ⟨s, rfl, _⟩, rfl, rfl, rfl⟩ := h1
  obtain ⟨_, _, e2, ⟨x, rfl, _⟩, rfl, rfl, rfl⟩ := h2
  obtain ⟨_, _, e3, ⟨y, rfl, _⟩, rfl, rfl, rfl⟩ := h3
  cases e1
  cases e2
  cases e3
  obtain ⟨d, c, e, r, v, ⟨hd, hc⟩, rfl, rfl, rfl⟩ := parts_of h4
  obtain ⟨d', c', e', r', v', ⟨hd', hc'⟩, rfl, rfl, rfl⟩ := parts_of h5
  exact f203 s x y d c d' c' e r v e' r' v' hd hd' hc hc'

theorem appr_lifted (os : Os) (started : os.Started) (H : Type) (enc : TypeId × Value → H) (F : Stop.Interp) :
    ReturnsInHanded {} Tryz.checked os 3 .any ((OpenSpec.ofChange Rows.custodianApprovesSpec).preRow enc Tryz.prog Tryz.f3 Rows.custodianApprovesRow.domain false Rows.custodianApprovesRow.laid) (((OpenSpec.ofChange Rows.custodianApprovesSpec).at F).post enc Tryz.prog Tryz.f3 false true false false) := by
  obtain ⟨places, hx⟩ := appr_reads os enc
  refine returnsInHanded_of_row (C := Tryz.checked) (s := OpenSpec.ofChange Rows.custodianApprovesSpec) own started (by kernel_rfl) Tryz.func3
    (witness_row_at (enc := enc) (C := Tryz.checked) false (laidWorld2 os) #[.string ⟨#[]⟩, .int .i64 0, .int .i64 0, wP, wP] rfl (by kernel_rfl) (by kernel_rfl) (by kernel_rfl)
      (OpenSpec.preRow_of_cond 8 hx (by kernel_rfl) (fun k hk => by cases hk) (by kernel_rfl) (appr_met os))) ?_
  intro W base args ds gs before hval hW _ _ _ hL _ _
  exact law_of_fun (d := 8) (tb := 4) (s := Rows.custodianApprovesSpec) appr_lay rfl (by kernel_rfl) boolT appr_spec appr_fun (table2 hL) (table20 hL) hval hW
theorem appr_said : Rows.CustodianApprovesSaid :=
  OpenClaim.holds_of_cond 3 Tryz.f3 rfl rfl rfl rfl rfl rfl rfl ⟨rfl, rfl, rfl, rfl, rfl⟩ rfl rfl rfl rfl rfl (by kernel_rfl) Tryz.func3 (by kernel_rfl)
    (of_decide_eq_true (by kernel_rfl)) (by unfold Func.isWrapper; first | (rw [if_pos (by decide +kernel)]; kernel_rfl) | (rw [if_neg (by decide +kernel)]; exact ⟨rfl, rfl⟩))
    (fun os started H enc _ F => by rw [OpenClaim.pre_eq_preRow]; exact appr_lifted os started H enc F)
theorem appr_plain (f : FuncId) (fn : Func) (hf : Tryz.pinned.checked.prog.funcNamed Rows.custodianApprovesRow.func = some f) (hfn : Tryz.pinned.checked.prog.funcs[f]? = some fn) :
    false = Tryz.pinned.checked.prog.looks [] ∧ ∀ (j : Nat) t, fn.params[j]? = some t → Tryz.pinned.checked.prog.wantsStandIn t = false := by
  obtain rfl : f = 3 := Option.some.inj ((show Tryz.prog.funcNamed Rows.custodianApprovesRow.func = some 3 by kernel_rfl).symm.trans hf) |>.symm
  obtain rfl : fn = Tryz.f3 := (Option.some.inj (Tryz.func3.symm.trans hfn)).symm
  refine ⟨by kernel_rfl, fun j t ht => ?_⟩
  have h : (Tryz.f3.params.toList.all fun t => !Tryz.prog.wantsStandIn t) = true := by kernel_rfl
  have := List.all_eq_true.1 h t (by simpa using Array.mem_of_getElem? ht)
  exact (show Tryz.prog.wantsStandIn t = false by simpa using this)
/-- CustodianApproves holds of the program -/
theorem appr_card : Rows.CustodianApprovesCardSaid :=
  Claim7.holds_tied_plain_at .later [] _ _ _ _ appr_said (fun _ h => by cases h) (by kernel_rfl) (fun _ h => by cases h) custodianApproves_row_tie rfl ⟨rfl, rfl⟩ (by kernel_rfl) rfl appr_plain (by kernel_rfl)

end Go.Proofs.YtkfbkooobfepeaaGreatDoor
