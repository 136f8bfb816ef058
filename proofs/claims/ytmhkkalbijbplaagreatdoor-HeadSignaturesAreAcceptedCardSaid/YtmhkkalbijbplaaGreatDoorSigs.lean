/- The law HeadSignaturesAreAccepted of layer 41, as the statement has it: it holds of the program. -/
import Derived.Test.YtmhkkalbijbplaaGreatDoorUi
namespace Go.Proofs.YtmhkkalbijbplaaGreatDoor
open Go Go.Sx Go.ChangeShapes Go.WideShapes
set_option maxRecDepth 100000
set_option linter.unusedSimpArgs false
set_option linter.unusedVariables false

/-- a head among the arguments -/
theorem hd_of {n n' : Nat} {vs : List SV} {m : Mem} (h : Opn (.t .s :: .t (.i .i64) :: .t (.i .i64) :: (List.replicate 16 (.t (.i .u8)) ++ [.t .s])) n vs m n') :
    ∃ (M : List UInt8) (s t : Int) (R S : List UInt8), R.length = 16 ∧ vs = hdL M s t R S ∧ m = [] ∧ n' = n := by
  simp only [Opn, TagSV] at h
  obtain ⟨_, _, rfl, ⟨M, rfl, _⟩, _, _, rfl, ⟨s, rfl, _⟩, _, _, rfl, ⟨t, rfl, _⟩, h⟩ := h
  obtain ⟨R, vs1, hR, rfl, h1⟩ := opn_u8s 16 h
  simp only [Opn, TagSV] at h1
  obtain ⟨_, _, rfl, ⟨S, rfl, _⟩, rfl, rfl, rfl⟩ := h1
  exact ⟨M, s, t, R, S, hR, rfl, rfl, rfl⟩
/-- the witness -/
def wH : Value := .agg (Value.string ⟨#[]⟩ :: .int .i64 0 :: .int .i64 0 :: (List.replicate 16 (Value.int .u8 0) ++ [Value.string ⟨#[]⟩])).toArray
def wHd {H : Type} : DataW H := .agg [.lit (.string []), .lit (.int .i64 0), .lit (.int .i64 0), .agg (List.replicate 16 (.lit (.int .u8 0))), .lit (.string [])]

theorem sigs_met (os : Os) : laidMet Tryz.prog Rows.headSignaturesAreAcceptedRow.laid ((laidWorld2 os).forCall (fun _ _ => 0) ⟨#[], #[.int .u8 0, .int .u8 0, .int .u8 0, wH], []⟩).memory :=
  laidMet_of_run' 8 (by kernel_rfl) (by kernel_rfl)
theorem sigs_reads (os : Os) {H : Type} (enc : TypeId × Value → H) : ∃ places, DataW.whole enc Tryz.prog ((laidWorld2 os).forCall (fun _ _ => 0) ⟨#[], #[.int .u8 0, .int .u8 0, .int .u8 0, wH], []⟩).memory Tryz.f7.params.toList Rows.headSignaturesAreAcceptedSpec.vars false
    (#[.int .u8 0, .int .u8 0, .int .u8 0, wH] : Array Value).toList 8 = some ([.lit (.int .u8 0), .lit (.int .u8 0), .lit (.int .u8 0), wHd], [], places) :=
  ⟨[], by kernel_rfl⟩
theorem sigs_lay : argLay Tryz.prog 8 Tryz.f7.params.toList = some [(false, [.t (.i .u8)]), (false, [.t (.i .u8)]), (false, [.t (.i .u8)]), (true, (.t .s :: .t (.i .i64) :: .t (.i .i64) :: (List.replicate 16 (.t (.i .u8)) ++ [.t .s])))] := by kernel_rfl
theorem sigs_spec {H : Type} : ∀ ds : List (DataW H), ds.length = Tryz.f7.params.toList.length → (Rows.headSignaturesAreAcceptedSpec.fn H ds).results = [.lit (.bool true)] ∧ (Rows.headSignaturesAreAcceptedSpec.fn H ds).args = ds ∧ (Rows.headSignaturesAreAcceptedSpec.fn H ds).vars = [] := by
  intro ds h
  have e : Tryz.f7.params.toList.length = 4 := by kernel_rfl
  rw [e] at h
  match ds, h with
  | [d1, d2, d3, d4], _ => exact ⟨rfl, rfl, rfl⟩
theorem sigs_fun : ∀ svs m n, Opns [(false, [.t (.i .u8)]), (false, [.t (.i .u8)]), (false, [.t (.i .u8)]), (true, (.t .s :: .t (.i .i64) :: .t (.i .i64) :: (List.replicate 16 (.t (.i .u8)) ++ [.t .s])))] 0 svs m n → Fun Tryz.prog tH2 7 svs m n (.bool true) [] n := by
  intro svs m n h
  simp only [Opns] at h
  obtain ⟨_, _, _, _, _, rfl, rfl, h1, _, _, _, _, _, rfl, rfl, h2, _, _, _, _, _, rfl, rfl, h3, _, _, _, _, _, rfl, rfl, h4, rfl, rfl, rfl⟩ := h
  simp only [Opn, TagSV] at h1 h2 h3
  obtain ⟨_, _, e1, ⟨x, rfl, hx⟩, rfl, rfl, rfl⟩ := h1
  obtain ⟨_, _, e2, ⟨y, rfl, hy⟩, rfl, rfl, rfl⟩ := h2
  obtain ⟨_, _, e3, ⟨z, rfl, hz⟩, rfl, rfl, rfl⟩ := h3
  cases e1
  cases e2
  cases e3
  obtain ⟨M, s, t, R, S, hR, rfl, rfl, rfl⟩ := hd_of h4
  rw [u8_byte (u8_range hx), u8_byte (u8_range hy), u8_byte (u8_range hz)]
  exact h7 _ _ _ M s t R S hR

theorem sigs_lifted (os : Os) (started : os.Started) (H : Type) (enc : TypeId × Value → H) (F : Stop.Interp) :
    ReturnsInHanded {} Tryz.checked os 7 .any ((OpenSpec.ofChange Rows.headSignaturesAreAcceptedSpec).preRow enc Tryz.prog Tryz.f7 Rows.headSignaturesAreAcceptedRow.domain false Rows.headSignaturesAreAcceptedRow.laid) (((OpenSpec.ofChange Rows.headSignaturesAreAcceptedSpec).at F).post enc Tryz.prog Tryz.f7 false true false false) := by
  obtain ⟨places, hx⟩ := sigs_reads os enc
  refine returnsInHanded_of_row (C := Tryz.checked) (s := OpenSpec.ofChange Rows.headSignaturesAreAcceptedSpec) own started (by kernel_rfl) Tryz.func7
    (witness_row_at (enc := enc) (C := Tryz.checked) false (laidWorld2 os) #[.int .u8 0, .int .u8 0, .int .u8 0, wH] rfl (by kernel_rfl) (by kernel_rfl) (by kernel_rfl)
      (OpenSpec.preRow_of_cond 8 hx (by kernel_rfl) (fun k hk => by cases hk) (by kernel_rfl) (sigs_met os))) ?_
  intro W base args ds gs before hval hW _ _ _ hL _ _
  exact law_of_fun (d := 8) (tb := 4) (s := Rows.headSignaturesAreAcceptedSpec) sigs_lay rfl (by kernel_rfl) boolT sigs_spec sigs_fun (table2 hL) (table20 hL) hval hW
theorem sigs_said : Rows.HeadSignaturesAreAcceptedSaid :=
  OpenClaim.holds_of_cond 7 Tryz.f7 rfl rfl rfl rfl rfl rfl rfl ⟨rfl, rfl, rfl, rfl, rfl⟩ rfl rfl rfl rfl rfl (by kernel_rfl) Tryz.func7 (by kernel_rfl)
    (of_decide_eq_true (by kernel_rfl)) (by unfold Func.isWrapper; first | (rw [if_pos (by decide +kernel)]; kernel_rfl) | (rw [if_neg (by decide +kernel)]; exact ⟨rfl, rfl⟩))
    (fun os started H enc _ F => by rw [OpenClaim.pre_eq_preRow]; exact sigs_lifted os started H enc F)
theorem sigs_plain (f : FuncId) (fn : Func) (hf : Tryz.pinned.checked.prog.funcNamed Rows.headSignaturesAreAcceptedRow.func = some f) (hfn : Tryz.pinned.checked.prog.funcs[f]? = some fn) :
    false = Tryz.pinned.checked.prog.looks [] ∧ ∀ (j : Nat) t, fn.params[j]? = some t → Tryz.pinned.checked.prog.wantsStandIn t = false := by
  obtain rfl : f = 7 := Option.some.inj ((show Tryz.prog.funcNamed Rows.headSignaturesAreAcceptedRow.func = some 7 by kernel_rfl).symm.trans hf) |>.symm
  obtain rfl : fn = Tryz.f7 := (Option.some.inj (Tryz.func7.symm.trans hfn)).symm
  refine ⟨by kernel_rfl, fun j t ht => ?_⟩
  have h : (Tryz.f7.params.toList.all fun t => !Tryz.prog.wantsStandIn t) = true := by kernel_rfl
  have := List.all_eq_true.1 h t (by simpa using Array.mem_of_getElem? ht)
  exact (show Tryz.prog.wantsStandIn t = false by simpa using this)
/-- HeadSignaturesAreAccepted holds of the program -/
theorem sigs_card : Rows.HeadSignaturesAreAcceptedCardSaid :=
  Claim7.holds_tied_plain_at .later [] _ _ _ _ sigs_said (fun _ h => by cases h) (by kernel_rfl) (fun _ h => by cases h) headSignaturesAreAccepted_row_tie rfl ⟨rfl, rfl⟩ (by kernel_rfl) rfl sigs_plain (by kernel_rfl)

end Go.Proofs.YtmhkkalbijbplaaGreatDoor
