/- What the sanity check of the laws computes: true. -/
import Derived.Test.YtflkcganpgjkkaaDoorTamH
namespace Go.Proofs.YtflkcganpgjkkaaDoor
open Go Go.Sx Sf
set_option maxRecDepth 100000
set_option linter.unusedSimpArgs false
set_option linter.unusedVariables false

def g10 : List SV → Option SV
  | [.agg [.int .i64 m, .int .i64 t, .int .i64 a, .int .i64 b, .int .i64 c, .int .i64 d], .int .i64 n] => some (.tup [(unlS ⟨m, t, a, b, c, d⟩ n).sv, I (unlE ⟨m, t, a, b, c, d⟩ n)])
  | _ => none
def gE (q : Int) : List SV → Option SV
  | [.agg [.int .i64 m, .int .i64 t, .int .i64 a, .int .i64 b, .int .i64 c, .int .i64 d]] => some (.tup [(endS ⟨m, t, a, b, c, d⟩ q).sv, I (endE ⟨m, t, a, b, c, d⟩)])
  | _ => none
def gP : List SV → Option SV
  | [.int .i64 m, .int .i64 c] => some (I (permI m c))
  | _ => none
def tab7 : Tab := ⟨(10, g10) :: (11, g10) :: (12, gE 4) :: (13, gE 4) :: (14, gE 5) :: (15, gE 5) :: (16, gP) :: (17, gP) :: tab5.p, []⟩
theorem tab7_ok : TabX Tryd.prog tS tab7 := by
  refine ⟨fun x h => ?_, fun x h => by simp [tab7] at h⟩
  simp only [tab7, List.mem_cons] at h
  rcases h with rfl | rfl | rfl | rfl | rfl | rfl | rfl | rfl | h
  · intro args r hr
    simp only [g10] at hr
    split at hr <;> cases hr
    exact ⟨f10 ⟨_, _, _, _, _, _⟩ _, fun _ => rfl, fun _ => rfl⟩
  · intro args r hr
    simp only [g10] at hr
    split at hr <;> cases hr
    exact ⟨f11 ⟨_, _, _, _, _, _⟩ _, fun _ => rfl, fun _ => rfl⟩
  · intro args r hr
    simp only [gE] at hr
    split at hr <;> cases hr
    exact ⟨f12 ⟨_, _, _, _, _, _⟩, fun _ => rfl, fun _ => rfl⟩
  · intro args r hr
    simp only [gE] at hr
    split at hr <;> cases hr
    exact ⟨f13 ⟨_, _, _, _, _, _⟩, fun _ => rfl, fun _ => rfl⟩
  · intro args r hr
    simp only [gE] at hr
    split at hr <;> cases hr
    exact ⟨f14 ⟨_, _, _, _, _, _⟩, fun _ => rfl, fun _ => rfl⟩
  · intro args r hr
    simp only [gE] at hr
    split at hr <;> cases hr
    exact ⟨f15 ⟨_, _, _, _, _, _⟩, fun _ => rfl, fun _ => rfl⟩
  · intro args r hr
    simp only [gP] at hr
    split at hr <;> cases hr
    exact ⟨f16 _ _, fun _ => rfl, fun _ => rfl⟩
  · intro args r hr
    simp only [gP] at hr
    split at hr <;> cases hr
    exact ⟨f17 _ _, fun _ => rfl, fun _ => rfl⟩
  · exact tab5_ok.p x h

theorem q1 : newS 0 = ⟨1, 0, 0, 0, 0, 0⟩ := rfl
theorem q2 : newE 0 = 0 := rfl
theorem q3 : stepS ⟨1, 0, 0, 0, 0, 0⟩ 2 10 5 = ⟨2, 0, 0, 3, 0, 0⟩ := by rfl
theorem q4 : errS ⟨1, 0, 0, 0, 0, 0⟩ 2 5 = 0 := by rfl
theorem q5 : stepS ⟨2, 0, 0, 3, 0, 0⟩ 2 10 5 = ⟨3, 0, 0, 6, 0, 0⟩ := by rfl
theorem q6 : errS ⟨2, 0, 0, 3, 0, 0⟩ 2 5 = 0 := by rfl
theorem q7 : unlE ⟨3, 0, 0, 6, 0, 0⟩ 359 = 18 := by rfl
theorem q8 : unlE ⟨3, 0, 0, 6, 0, 0⟩ 365 = 0 := by rfl
theorem q9 : unlS ⟨3, 0, 0, 6, 0, 0⟩ 365 = ⟨1, 360, 0, 0, 0, 0⟩ := by rfl
theorem q10 : passS ⟨2, 0, 0, 3, 0, 0⟩ 180 = ⟨1, 180, 0, 0, 0, 0⟩ := by rfl
theorem q11 : err ⟨2, 0, 0, 3, 0, 0⟩ 180 = 0 := by rfl
theorem q12 : stepS ⟨1, 0, 0, 0, 0, 0⟩ 1 1 0 = ⟨4, 0, 0, 0, 0, 0⟩ := by rfl
theorem q13 : errS ⟨1, 0, 0, 0, 0, 0⟩ 1 0 = 0 := by rfl
theorem q14 : endS ⟨1, 0, 0, 0, 0, 0⟩ 4 = ⟨4, 0, 0, 0, 0, 0⟩ := by rfl
theorem q15 : endS ⟨1, 0, 0, 0, 0, 0⟩ 5 = ⟨5, 0, 0, 0, 0, 0⟩ := by rfl
theorem q16 : endE ⟨1, 0, 0, 0, 0, 0⟩ = 0 := by rfl
theorem q17 : sumW 0 3 0 0 = 3 := by rfl
theorem q18 : validB 1 0 0 0 0 0 = true := by rfl
theorem q19 : validB 0 0 0 0 0 0 = false := by rfl
theorem q20 : alarmB 4 85 = true := by rfl
theorem q21 : alarmB 4 84 = false := by rfl
theorem q22 : permI 2 3 = 18 := by rfl
theorem q23 : permI 3 26 = 0 := by rfl
theorem q24 : permI 4 26 = 19 := by rfl

theorem f9 : Fun Tryd.prog tS 9 [] [] 0 (.bool true) [] 0 := by
  refine fun_pure (some 5) (callX tab7) (callX_ok tab7_ok) chk9 (show 0 ≤ 178 by decide) (fun _ => rfl) ?_
  unfold sf9
  simp (config := { maxSteps := 10000000 }) only [q1, q2, q3, q4, q5, q6, q7, q8, q9, q10, q11, q12, q13, q14, q15, q16, q17, q18, q19, q20, q21, q22, q23, q24, St.sv,
    tab7, tab5, tab4, tab2, ↓g10, ↓gE, ↓gP, ↓g28, ↓g22, ↓g20, ↓g19, ↓g18, ↓g23, ↓g21, SV.flatL, SV.flat, Bool.and_true, Bool.and_self, Bool.true_and, beq_self_eq_true, Int.reduceGE, Int.reduceGT, ↓u_callAnd, Blk.mk.injEq, List.cons.injEq, SV.int.injEq, SV.bool.injEq, SV.tup.injEq, SV.agg.injEq, and_self, undef, Int.reduceBNe, Int.reduceBEq, Nat.reduceBNe, Nat.reduceBEq, ↓u_callX, lookF, setv, finO_r, finO_n, finO_x, again_n, again_x, again_r, lookT, eqPat, eqTag, reduceCtorEq, Nat.reduceEqDiff, Nat.reduceAdd, Nat.reduceSub, Nat.reduceMul, Nat.reduceDiv, Nat.reduceLeDiff, Nat.reduceLT, Int.reduceToNat, Int.reduceLT, Int.reduceLE, Int.reduceAdd, Int.reduceSub, Int.reduceMul, Int.reduceNeg, Int.reduceEq, Int.reduceNe, wrap64, false_imp_iff, true_imp_iff, eq_self, decide_true, decide_false, Int.cast_ofNat_Int,  true_and, and_true, false_and, and_false, imp_self, implies_true, List.getElem?_cons_zero, List.getElem?_cons_succ, List.length_cons, List.length_nil, List.append_nil, List.nil_append, List.cons_append, List.take_succ_cons, List.take_zero, List.drop_succ_cons, List.drop_zero, List.take_nil, List.drop_nil, List.reverse_cons, List.reverse_nil, List.map_cons, List.map_nil, Nat.zero_add, Nat.add_zero, frOf, den_nil, den_o0, ↓gd_tt, ↓gd_ff, ↓gd_tf, ↓gd_ft, gd_any, den_o1, kont_app, den_g, setv, Bool.not_true, Bool.not_false, den_skip, den_reg, den_regD, den_regP, den_A, den_seq, den_cond, den_block, den_exit, den_ret, den_b, den_xb, den_xo, den_xc, den_xu, den_rb, den_ro, den_rc, den_ru, den_u, den_loopU, finP_r, finP_n, finP_x, ↓reduceIte, ↓e_box, ↓e_build, ↓e_bslice, ↓e_load, ↓e_store, ↓e_idxS, ↓e_idxV, ↓e_idxT, ↓e_fieldV, ↓e_eqv, ↓e_isNil, ↓e_b2s, ↓e_slcS, ↓e_arrAt, ↓e_ext, ↓e_app, ↓e_copy, ↓e_mv, ↓e_pick, ↓e_new, ↓e_nilc, ↓e_fld, ↓e_idxA, ↓e_bin, ↓e_eqb, ↓e_un, ↓e_conv, ↓e_strS, ↓e_s2b, ↓e_mkfn, ↓e_mksl, ↓e_slcA, ↓e_slcT, ↓e_call, ↓e_callp, ↓e_callv, ↓e_len, ↓e_lenA, ↓e_mx, ↓e_mn, ↓u_onInt, ↓u_onBool, ↓u_onOpt0, ↓u_onOpt1, ↓u_binV, ↓u_srcOf, ↓u_srcSl, ↓binI, ↓binS, ↓fillE, ↓evRes, evA, Opd.ev, Sx.get, put, putO, del, dels, frD, memD, pickD, kills, views, newer, rd, rm, upd, splice, SV.cells?, SV.one, retOf]
end Go.Proofs.YtflkcganpgjkkaaDoor
