/- What the small functions of package tamper and of its reference compute. -/
import Derived.Test.YtflkcganpgjkkaaDoorSfA
namespace Go.Proofs.YtflkcganpgjkkaaDoor
open Go Go.Sx Sf
set_option maxRecDepth 100000
set_option linter.unusedSimpArgs false
set_option linter.unusedVariables false

abbrev I (n : Int) : SV := .int .i64 n
/-- the table of the sensors -/
def tS : List (Nat × List SV) := [(0, [I (-9223372036854775808), I 1, I 0, I (-9223372036854775808), I 10, I 3, I (-100), I 100, I 1, I (-40), I 85, I 1])]
def tab0 : Tab := ⟨[], []⟩
theorem tab0_ok : TabX Tryd.prog tS tab0 := ⟨fun x h => by simp [tab0] at h, fun x h => by simp [tab0] at h⟩

def timeB (n : Int) : Bool := decide (0 ≤ n ∧ n ≤ 1099511627776)
def knownB (s : Int) : Bool := decide (1 ≤ s ∧ s ≤ 4)
def alarmB (s l : Int) : Bool := decide ((s = 1 ∧ 1 ≤ l) ∨ (s = 2 ∧ 10 ≤ l) ∨ (s = 3 ∧ (100 ≤ l ∨ l ≤ -100)) ∨ (s = 4 ∧ (85 ≤ l ∨ l ≤ -40)))
def validB (m t a b c d : Int) : Bool := decide (1 ≤ m ∧ m ≤ 5 ∧ 0 ≤ t ∧ t ≤ 1099511627776 ∧ 0 ≤ a ∧ a ≤ 100 ∧ 0 ≤ b ∧ b ≤ 100 ∧ 0 ≤ c ∧ c ≤ 100 ∧ 0 ≤ d ∧ d ≤ 100)
def sumW (a b c d : Int) : Int := IntKind.i64.wrap (IntKind.i64.wrap (IntKind.i64.wrap (IntKind.i64.wrap (0 + a) + b) + c) + d)

def g30 : List SV → Option SV
  | [.int .i64 n] => some (.bool (timeB n))
  | _ => none
def g35 : List SV → Option SV
  | [.agg [.int .i64 s, .int .i64 _]] => some (.bool (knownB s))
  | _ => none
def g23 : List SV → Option SV
  | [.agg [.int .i64 s, .int .i64 l]] => some (.bool (alarmB s l))
  | _ => none
def g25 : List SV → Option SV
  | [.agg [.int .i64 m, .int .i64 _, .int .i64 _, .int .i64 _, .int .i64 _, .int .i64 _]] => some (.bool (decide (4 ≤ m)))
  | _ => none
def g21 : List SV → Option SV
  | [.agg [.int .i64 _, .int .i64 _, .int .i64 a, .int .i64 b, .int .i64 c, .int .i64 d]] => some (I (sumW a b c d))
  | _ => none
def g18 : List SV → Option SV
  | [.agg [.int .i64 m, .int .i64 t, .int .i64 a, .int .i64 b, .int .i64 c, .int .i64 d]] => some (.bool (validB m t a b c d))
  | _ => none

theorem f30 (n : Int) : Fun Tryd.prog tS 30 [I n] [] 0 (.bool (timeB n)) [] 0 := by
  refine fun_pure (some 5) (callX tab0) (callX_ok tab0_ok) chk30 (show 1 ≤ 9 by decide) (by intro; rfl) ?_
  unfold sf30
  simp (config := { maxSteps := 1000000 }) only [SV.flatL, SV.flat, Bool.and_true, Bool.and_self, Bool.true_and, beq_self_eq_true, Int.reduceGE, Int.reduceGT, ↓u_callAnd, Blk.mk.injEq, List.cons.injEq, SV.int.injEq, SV.bool.injEq, SV.tup.injEq, SV.agg.injEq, and_self, undef, Int.reduceBNe, Int.reduceBEq, Nat.reduceBNe, Nat.reduceBEq, ↓u_callX, lookF, setv, finO_r, finO_n, finO_x, again_n, again_x, again_r, lookT, eqPat, eqTag, reduceCtorEq, Nat.reduceEqDiff, Nat.reduceAdd, Nat.reduceSub, Nat.reduceMul, Nat.reduceDiv, Nat.reduceLeDiff, Nat.reduceLT, Int.reduceToNat, Int.reduceLT, Int.reduceLE, Int.reduceAdd, Int.reduceSub, Int.reduceMul, Int.reduceNeg, Int.reduceEq, Int.reduceNe, wrap64, false_imp_iff, true_imp_iff, eq_self, decide_true, decide_false, Int.cast_ofNat_Int,  true_and, and_true, false_and, and_false, imp_self, implies_true, List.getElem?_cons_zero, List.getElem?_cons_succ, List.length_cons, List.length_nil, List.append_nil, List.nil_append, List.cons_append, List.take_succ_cons, List.take_zero, List.drop_succ_cons, List.drop_zero, List.take_nil, List.drop_nil, List.reverse_cons, List.reverse_nil, List.map_cons, List.map_nil, Nat.zero_add, Nat.add_zero, frOf, den_nil, den_o0, ↓gd_tt, ↓gd_ff, ↓gd_tf, ↓gd_ft, gd_any, den_o1, kont_app, den_g, setv, Bool.not_true, Bool.not_false, den_skip, den_reg, den_regD, den_regP, den_A, den_seq, den_cond, den_block, den_exit, den_ret, den_b, den_xb, den_xo, den_xc, den_xu, den_rb, den_ro, den_rc, den_ru, den_u, den_loopU, finP_r, finP_n, finP_x, ↓reduceIte, ↓e_box, ↓e_build, ↓e_bslice, ↓e_load, ↓e_store, ↓e_idxS, ↓e_idxV, ↓e_idxT, ↓e_fieldV, ↓e_eqv, ↓e_isNil, ↓e_b2s, ↓e_slcS, ↓e_arrAt, ↓e_ext, ↓e_app, ↓e_copy, ↓e_mv, ↓e_pick, ↓e_new, ↓e_nilc, ↓e_fld, ↓e_idxA, ↓e_bin, ↓e_eqb, ↓e_un, ↓e_conv, ↓e_strS, ↓e_s2b, ↓e_mkfn, ↓e_mksl, ↓e_slcA, ↓e_slcT, ↓e_call, ↓e_callp, ↓e_callv, ↓e_len, ↓e_lenA, ↓e_mx, ↓e_mn, ↓u_onInt, ↓u_onBool, ↓u_onOpt0, ↓u_onOpt1, ↓u_binV, ↓u_srcOf, ↓u_srcSl, ↓binI, ↓binS, ↓fillE, ↓evRes, evA, Opd.ev, Sx.get, put, putO, del, dels, frD, memD, pickD, kills, views, newer, rd, rm, upd, splice, SV.cells?, SV.one, retOf]
  repeat' (first | apply And.intro | intro)
  all_goals
    simp only [SV.bool.injEq, decide_eq_true_eq, decide_eq_false_iff_not, timeB, decide_eq_decide, Bool.false_eq, Bool.true_eq, true_and, false_and, or_false, false_or, not_false_eq_true, Int.reduceEq, Int.reduceBNe, Int.reduceBEq, reduceCtorEq] at *
    try omega
theorem f35 (s l : Int) : Fun Tryd.prog tS 35 [.agg [I s, I l]] [] 0 (.bool (knownB s)) [] 0 := by
  refine fun_pure (some 5) (callX tab0) (callX_ok tab0_ok) chk35 (show 1 ≤ 11 by decide) (by intro; rfl) ?_
  unfold sf35
  simp (config := { maxSteps := 1000000 }) only [SV.flatL, SV.flat, Bool.and_true, Bool.and_self, Bool.true_and, beq_self_eq_true, Int.reduceGE, Int.reduceGT, ↓u_callAnd, Blk.mk.injEq, List.cons.injEq, SV.int.injEq, SV.bool.injEq, SV.tup.injEq, SV.agg.injEq, and_self, undef, Int.reduceBNe, Int.reduceBEq, Nat.reduceBNe, Nat.reduceBEq, ↓u_callX, lookF, setv, finO_r, finO_n, finO_x, again_n, again_x, again_r, lookT, eqPat, eqTag, reduceCtorEq, Nat.reduceEqDiff, Nat.reduceAdd, Nat.reduceSub, Nat.reduceMul, Nat.reduceDiv, Nat.reduceLeDiff, Nat.reduceLT, Int.reduceToNat, Int.reduceLT, Int.reduceLE, Int.reduceAdd, Int.reduceSub, Int.reduceMul, Int.reduceNeg, Int.reduceEq, Int.reduceNe, wrap64, false_imp_iff, true_imp_iff, eq_self, decide_true, decide_false, Int.cast_ofNat_Int,  true_and, and_true, false_and, and_false, imp_self, implies_true, List.getElem?_cons_zero, List.getElem?_cons_succ, List.length_cons, List.length_nil, List.append_nil, List.nil_append, List.cons_append, List.take_succ_cons, List.take_zero, List.drop_succ_cons, List.drop_zero, List.take_nil, List.drop_nil, List.reverse_cons, List.reverse_nil, List.map_cons, List.map_nil, Nat.zero_add, Nat.add_zero, frOf, den_nil, den_o0, ↓gd_tt, ↓gd_ff, ↓gd_tf, ↓gd_ft, gd_any, den_o1, kont_app, den_g, setv, Bool.not_true, Bool.not_false, den_skip, den_reg, den_regD, den_regP, den_A, den_seq, den_cond, den_block, den_exit, den_ret, den_b, den_xb, den_xo, den_xc, den_xu, den_rb, den_ro, den_rc, den_ru, den_u, den_loopU, finP_r, finP_n, finP_x, ↓reduceIte, ↓e_box, ↓e_build, ↓e_bslice, ↓e_load, ↓e_store, ↓e_idxS, ↓e_idxV, ↓e_idxT, ↓e_fieldV, ↓e_eqv, ↓e_isNil, ↓e_b2s, ↓e_slcS, ↓e_arrAt, ↓e_ext, ↓e_app, ↓e_copy, ↓e_mv, ↓e_pick, ↓e_new, ↓e_nilc, ↓e_fld, ↓e_idxA, ↓e_bin, ↓e_eqb, ↓e_un, ↓e_conv, ↓e_strS, ↓e_s2b, ↓e_mkfn, ↓e_mksl, ↓e_slcA, ↓e_slcT, ↓e_call, ↓e_callp, ↓e_callv, ↓e_len, ↓e_lenA, ↓e_mx, ↓e_mn, ↓u_onInt, ↓u_onBool, ↓u_onOpt0, ↓u_onOpt1, ↓u_binV, ↓u_srcOf, ↓u_srcSl, ↓binI, ↓binS, ↓fillE, ↓evRes, evA, Opd.ev, Sx.get, put, putO, del, dels, frD, memD, pickD, kills, views, newer, rd, rm, upd, splice, SV.cells?, SV.one, retOf]
  repeat' (first | apply And.intro | intro)
  all_goals
    simp only [SV.bool.injEq, decide_eq_true_eq, decide_eq_false_iff_not, knownB, decide_eq_decide, Bool.false_eq, Bool.true_eq, true_and, false_and, or_false, false_or, not_false_eq_true, Int.reduceEq, Int.reduceBNe, Int.reduceBEq, reduceCtorEq] at *
    try omega
theorem f25 (m t a b c d : Int) : Fun Tryd.prog tS 25 [.agg [I m, I t, I a, I b, I c, I d]] [] 0 (.bool (decide (4 ≤ m))) [] 0 := by
  refine fun_pure (some 5) (callX tab0) (callX_ok tab0_ok) chk25 (show 1 ≤ 6 by decide) (by intro; rfl) ?_
  unfold sf25
  simp (config := { maxSteps := 1000000 }) only [ge_iff_le, SV.flatL, SV.flat, Bool.and_true, Bool.and_self, Bool.true_and, beq_self_eq_true, Int.reduceGE, Int.reduceGT, ↓u_callAnd, Blk.mk.injEq, List.cons.injEq, SV.int.injEq, SV.bool.injEq, SV.tup.injEq, SV.agg.injEq, and_self, undef, Int.reduceBNe, Int.reduceBEq, Nat.reduceBNe, Nat.reduceBEq, ↓u_callX, lookF, setv, finO_r, finO_n, finO_x, again_n, again_x, again_r, lookT, eqPat, eqTag, reduceCtorEq, Nat.reduceEqDiff, Nat.reduceAdd, Nat.reduceSub, Nat.reduceMul, Nat.reduceDiv, Nat.reduceLeDiff, Nat.reduceLT, Int.reduceToNat, Int.reduceLT, Int.reduceLE, Int.reduceAdd, Int.reduceSub, Int.reduceMul, Int.reduceNeg, Int.reduceEq, Int.reduceNe, wrap64, false_imp_iff, true_imp_iff, eq_self, decide_true, decide_false, Int.cast_ofNat_Int,  true_and, and_true, false_and, and_false, imp_self, implies_true, List.getElem?_cons_zero, List.getElem?_cons_succ, List.length_cons, List.length_nil, List.append_nil, List.nil_append, List.cons_append, List.take_succ_cons, List.take_zero, List.drop_succ_cons, List.drop_zero, List.take_nil, List.drop_nil, List.reverse_cons, List.reverse_nil, List.map_cons, List.map_nil, Nat.zero_add, Nat.add_zero, frOf, den_nil, den_o0, ↓gd_tt, ↓gd_ff, ↓gd_tf, ↓gd_ft, gd_any, den_o1, kont_app, den_g, setv, Bool.not_true, Bool.not_false, den_skip, den_reg, den_regD, den_regP, den_A, den_seq, den_cond, den_block, den_exit, den_ret, den_b, den_xb, den_xo, den_xc, den_xu, den_rb, den_ro, den_rc, den_ru, den_u, den_loopU, finP_r, finP_n, finP_x, ↓reduceIte, ↓e_box, ↓e_build, ↓e_bslice, ↓e_load, ↓e_store, ↓e_idxS, ↓e_idxV, ↓e_idxT, ↓e_fieldV, ↓e_eqv, ↓e_isNil, ↓e_b2s, ↓e_slcS, ↓e_arrAt, ↓e_ext, ↓e_app, ↓e_copy, ↓e_mv, ↓e_pick, ↓e_new, ↓e_nilc, ↓e_fld, ↓e_idxA, ↓e_bin, ↓e_eqb, ↓e_un, ↓e_conv, ↓e_strS, ↓e_s2b, ↓e_mkfn, ↓e_mksl, ↓e_slcA, ↓e_slcT, ↓e_call, ↓e_callp, ↓e_callv, ↓e_len, ↓e_lenA, ↓e_mx, ↓e_mn, ↓u_onInt, ↓u_onBool, ↓u_onOpt0, ↓u_onOpt1, ↓u_binV, ↓u_srcOf, ↓u_srcSl, ↓binI, ↓binS, ↓fillE, ↓evRes, evA, Opd.ev, Sx.get, put, putO, del, dels, frD, memD, pickD, kills, views, newer, rd, rm, upd, splice, SV.cells?, SV.one, retOf]
theorem f21 (m t a b c d : Int) : Fun Tryd.prog tS 21 [.agg [I m, I t, I a, I b, I c, I d]] [] 0 (I (sumW a b c d)) [] 0 := by
  refine fun_pure (some 5) (callX tab0) (callX_ok tab0_ok) chk21 (show 1 ≤ 16 by decide) (by intro; rfl) ?_
  unfold sf21
  simp (config := { maxSteps := 1000000 }) only [sumW, SV.flatL, SV.flat, Bool.and_true, Bool.and_self, Bool.true_and, beq_self_eq_true, Int.reduceGE, Int.reduceGT, ↓u_callAnd, Blk.mk.injEq, List.cons.injEq, SV.int.injEq, SV.bool.injEq, SV.tup.injEq, SV.agg.injEq, and_self, undef, Int.reduceBNe, Int.reduceBEq, Nat.reduceBNe, Nat.reduceBEq, ↓u_callX, lookF, setv, finO_r, finO_n, finO_x, again_n, again_x, again_r, lookT, eqPat, eqTag, reduceCtorEq, Nat.reduceEqDiff, Nat.reduceAdd, Nat.reduceSub, Nat.reduceMul, Nat.reduceDiv, Nat.reduceLeDiff, Nat.reduceLT, Int.reduceToNat, Int.reduceLT, Int.reduceLE, Int.reduceAdd, Int.reduceSub, Int.reduceMul, Int.reduceNeg, Int.reduceEq, Int.reduceNe, wrap64, false_imp_iff, true_imp_iff, eq_self, decide_true, decide_false, Int.cast_ofNat_Int,  true_and, and_true, false_and, and_false, imp_self, implies_true, List.getElem?_cons_zero, List.getElem?_cons_succ, List.length_cons, List.length_nil, List.append_nil, List.nil_append, List.cons_append, List.take_succ_cons, List.take_zero, List.drop_succ_cons, List.drop_zero, List.take_nil, List.drop_nil, List.reverse_cons, List.reverse_nil, List.map_cons, List.map_nil, Nat.zero_add, Nat.add_zero, frOf, den_nil, den_o0, ↓gd_tt, ↓gd_ff, ↓gd_tf, ↓gd_ft, gd_any, den_o1, kont_app, den_g, setv, Bool.not_true, Bool.not_false, den_skip, den_reg, den_regD, den_regP, den_A, den_seq, den_cond, den_block, den_exit, den_ret, den_b, den_xb, den_xo, den_xc, den_xu, den_rb, den_ro, den_rc, den_ru, den_u, den_loopU, finP_r, finP_n, finP_x, ↓reduceIte, ↓e_box, ↓e_build, ↓e_bslice, ↓e_load, ↓e_store, ↓e_idxS, ↓e_idxV, ↓e_idxT, ↓e_fieldV, ↓e_eqv, ↓e_isNil, ↓e_b2s, ↓e_slcS, ↓e_arrAt, ↓e_ext, ↓e_app, ↓e_copy, ↓e_mv, ↓e_pick, ↓e_new, ↓e_nilc, ↓e_fld, ↓e_idxA, ↓e_bin, ↓e_eqb, ↓e_un, ↓e_conv, ↓e_strS, ↓e_s2b, ↓e_mkfn, ↓e_mksl, ↓e_slcA, ↓e_slcT, ↓e_call, ↓e_callp, ↓e_callv, ↓e_len, ↓e_lenA, ↓e_mx, ↓e_mn, ↓u_onInt, ↓u_onBool, ↓u_onOpt0, ↓u_onOpt1, ↓u_binV, ↓u_srcOf, ↓u_srcSl, ↓binI, ↓binS, ↓fillE, ↓evRes, evA, Opd.ev, Sx.get, put, putO, del, dels, frD, memD, pickD, kills, views, newer, rd, rm, upd, splice, SV.cells?, SV.one, retOf]

def tab1 : Tab := ⟨[(30, g30), (35, g35), (25, g25), (21, g21)], []⟩
theorem tab1_ok : TabX Tryd.prog tS tab1 := by
  refine ⟨fun x h => ?_, fun x h => by simp [tab1] at h⟩
  simp only [tab1, List.mem_cons, List.not_mem_nil, or_false] at h
  rcases h with rfl | rfl | rfl | rfl
  · intro args r hr
    simp only [g30] at hr
    split at hr <;> cases hr
    exact ⟨f30 _, fun _ => rfl, fun _ => rfl⟩
  · intro args r hr
    simp only [g35] at hr
    split at hr <;> cases hr
    exact ⟨f35 _ _, fun _ => rfl, fun _ => rfl⟩
  · intro args r hr
    simp only [g25] at hr
    split at hr <;> cases hr
    exact ⟨f25 _ _ _ _ _ _, fun _ => rfl, fun _ => rfl⟩
  · intro args r hr
    simp only [g21] at hr
    split at hr <;> cases hr
    exact ⟨f21 _ _ _ _ _ _, fun _ => rfl, fun _ => rfl⟩

theorem f18 (m t a b c d : Int) : Fun Tryd.prog tS 18 [.agg [I m, I t, I a, I b, I c, I d]] [] 0 (.bool (validB m t a b c d)) [] 0 := by
  refine fun_pure (some 5) (callX tab1) (callX_ok tab1_ok) chk18 (show 1 ≤ 35 by decide) (by intro; rfl) ?_
  unfold sf18
  simp (config := { maxSteps := 1000000 }) only [tab1, ↓g30, SV.flatL, SV.flat, Bool.and_true, Bool.and_self, Bool.true_and, beq_self_eq_true, Int.reduceGE, Int.reduceGT, ↓u_callAnd, Blk.mk.injEq, List.cons.injEq, SV.int.injEq, SV.bool.injEq, SV.tup.injEq, SV.agg.injEq, and_self, undef, Int.reduceBNe, Int.reduceBEq, Nat.reduceBNe, Nat.reduceBEq, ↓u_callX, lookF, setv, finO_r, finO_n, finO_x, again_n, again_x, again_r, lookT, eqPat, eqTag, reduceCtorEq, Nat.reduceEqDiff, Nat.reduceAdd, Nat.reduceSub, Nat.reduceMul, Nat.reduceDiv, Nat.reduceLeDiff, Nat.reduceLT, Int.reduceToNat, Int.reduceLT, Int.reduceLE, Int.reduceAdd, Int.reduceSub, Int.reduceMul, Int.reduceNeg, Int.reduceEq, Int.reduceNe, wrap64, false_imp_iff, true_imp_iff, eq_self, decide_true, decide_false, Int.cast_ofNat_Int,  true_and, and_true, false_and, and_false, imp_self, implies_true, List.getElem?_cons_zero, List.getElem?_cons_succ, List.length_cons, List.length_nil, List.append_nil, List.nil_append, List.cons_append, List.take_succ_cons, List.take_zero, List.drop_succ_cons, List.drop_zero, List.take_nil, List.drop_nil, List.reverse_cons, List.reverse_nil, List.map_cons, List.map_nil, Nat.zero_add, Nat.add_zero, frOf, den_nil, den_o0, ↓gd_tt, ↓gd_ff, ↓gd_tf, ↓gd_ft, gd_any, den_o1, kont_app, den_g, setv, Bool.not_true, Bool.not_false, den_skip, den_reg, den_regD, den_regP, den_A, den_seq, den_cond, den_block, den_exit, den_ret, den_b, den_xb, den_xo, den_xc, den_xu, den_rb, den_ro, den_rc, den_ru, den_u, den_loopU, finP_r, finP_n, finP_x, ↓reduceIte, ↓e_box, ↓e_build, ↓e_bslice, ↓e_load, ↓e_store, ↓e_idxS, ↓e_idxV, ↓e_idxT, ↓e_fieldV, ↓e_eqv, ↓e_isNil, ↓e_b2s, ↓e_slcS, ↓e_arrAt, ↓e_ext, ↓e_app, ↓e_copy, ↓e_mv, ↓e_pick, ↓e_new, ↓e_nilc, ↓e_fld, ↓e_idxA, ↓e_bin, ↓e_eqb, ↓e_un, ↓e_conv, ↓e_strS, ↓e_s2b, ↓e_mkfn, ↓e_mksl, ↓e_slcA, ↓e_slcT, ↓e_call, ↓e_callp, ↓e_callv, ↓e_len, ↓e_lenA, ↓e_mx, ↓e_mn, ↓u_onInt, ↓u_onBool, ↓u_onOpt0, ↓u_onOpt1, ↓u_binV, ↓u_srcOf, ↓u_srcSl, ↓binI, ↓binS, ↓fillE, ↓evRes, evA, Opd.ev, Sx.get, put, putO, del, dels, frD, memD, pickD, kills, views, newer, rd, rm, upd, splice, SV.cells?, SV.one, retOf]
  repeat' (first | apply And.intro | intro)
  all_goals
    simp only [SV.bool.injEq, decide_eq_true_eq, decide_eq_false_iff_not, timeB, validB, decide_eq_decide, Bool.false_eq, Bool.true_eq, true_and, false_and, or_false, false_or, not_false_eq_true, Int.reduceEq, Int.reduceBNe, Int.reduceBEq, reduceCtorEq] at *
    try omega
theorem f29 (m t a b c d : Int) : Fun Tryd.prog tS 29 [.agg [I m, I t, I a, I b, I c, I d]] [] 0 (.bool (validB m t a b c d)) [] 0 := by
  refine fun_pure (some 5) (callX tab0) (callX_ok tab0_ok) chk29 (show 1 ≤ 38 by decide) (by intro; rfl) ?_
  unfold sf29
  simp (config := { maxSteps := 1000000 }) only [SV.flatL, SV.flat, Bool.and_true, Bool.and_self, Bool.true_and, beq_self_eq_true, Int.reduceGE, Int.reduceGT, ↓u_callAnd, Blk.mk.injEq, List.cons.injEq, SV.int.injEq, SV.bool.injEq, SV.tup.injEq, SV.agg.injEq, and_self, undef, Int.reduceBNe, Int.reduceBEq, Nat.reduceBNe, Nat.reduceBEq, ↓u_callX, lookF, setv, finO_r, finO_n, finO_x, again_n, again_x, again_r, lookT, eqPat, eqTag, reduceCtorEq, Nat.reduceEqDiff, Nat.reduceAdd, Nat.reduceSub, Nat.reduceMul, Nat.reduceDiv, Nat.reduceLeDiff, Nat.reduceLT, Int.reduceToNat, Int.reduceLT, Int.reduceLE, Int.reduceAdd, Int.reduceSub, Int.reduceMul, Int.reduceNeg, Int.reduceEq, Int.reduceNe, wrap64, false_imp_iff, true_imp_iff, eq_self, decide_true, decide_false, Int.cast_ofNat_Int,  true_and, and_true, false_and, and_false, imp_self, implies_true, List.getElem?_cons_zero, List.getElem?_cons_succ, List.length_cons, List.length_nil, List.append_nil, List.nil_append, List.cons_append, List.take_succ_cons, List.take_zero, List.drop_succ_cons, List.drop_zero, List.take_nil, List.drop_nil, List.reverse_cons, List.reverse_nil, List.map_cons, List.map_nil, Nat.zero_add, Nat.add_zero, frOf, den_nil, den_o0, ↓gd_tt, ↓gd_ff, ↓gd_tf, ↓gd_ft, gd_any, den_o1, kont_app, den_g, setv, Bool.not_true, Bool.not_false, den_skip, den_reg, den_regD, den_regP, den_A, den_seq, den_cond, den_block, den_exit, den_ret, den_b, den_xb, den_xo, den_xc, den_xu, den_rb, den_ro, den_rc, den_ru, den_u, den_loopU, finP_r, finP_n, finP_x, ↓reduceIte, ↓e_box, ↓e_build, ↓e_bslice, ↓e_load, ↓e_store, ↓e_idxS, ↓e_idxV, ↓e_idxT, ↓e_fieldV, ↓e_eqv, ↓e_isNil, ↓e_b2s, ↓e_slcS, ↓e_arrAt, ↓e_ext, ↓e_app, ↓e_copy, ↓e_mv, ↓e_pick, ↓e_new, ↓e_nilc, ↓e_fld, ↓e_idxA, ↓e_bin, ↓e_eqb, ↓e_un, ↓e_conv, ↓e_strS, ↓e_s2b, ↓e_mkfn, ↓e_mksl, ↓e_slcA, ↓e_slcT, ↓e_call, ↓e_callp, ↓e_callv, ↓e_len, ↓e_lenA, ↓e_mx, ↓e_mn, ↓u_onInt, ↓u_onBool, ↓u_onOpt0, ↓u_onOpt1, ↓u_binV, ↓u_srcOf, ↓u_srcSl, ↓binI, ↓binS, ↓fillE, ↓evRes, evA, Opd.ev, Sx.get, put, putO, del, dels, frD, memD, pickD, kills, views, newer, rd, rm, upd, splice, SV.cells?, SV.one, retOf]
  repeat' (first | apply And.intro | intro)
  all_goals
    simp only [SV.bool.injEq, decide_eq_true_eq, decide_eq_false_iff_not, validB, decide_eq_decide, Bool.false_eq, Bool.true_eq, true_and, false_and, or_false, false_or, not_false_eq_true, Int.reduceEq, Int.reduceBNe, Int.reduceBEq, reduceCtorEq] at *
    try omega
theorem f23 (s l : Int) : Fun Tryd.prog tS 23 [.agg [I s, I l]] [] 0 (.bool (alarmB s l)) [] 0 := by
  refine fun_pure (some 5) (callX tab1) (callX_ok tab1_ok) chk23 (show 1 ≤ 29 by decide) (by intro; rfl) ?_
  unfold sf23
  by_cases h : 1 ≤ s ∧ s ≤ 4
  · obtain rfl | rfl | rfl | rfl : s = 1 ∨ s = 2 ∨ s = 3 ∨ s = 4 := by omega
    all_goals
      simp (config := { maxSteps := 1000000 }) only [tS, tab1, ↓g35, knownB, SV.flatL, SV.flat, Bool.and_true, Bool.and_self, Bool.true_and, beq_self_eq_true, Int.reduceGE, Int.reduceGT, ↓u_callAnd, Blk.mk.injEq, List.cons.injEq, SV.int.injEq, SV.bool.injEq, SV.tup.injEq, SV.agg.injEq, and_self, undef, Int.reduceBNe, Int.reduceBEq, Nat.reduceBNe, Nat.reduceBEq, ↓u_callX, lookF, setv, finO_r, finO_n, finO_x, again_n, again_x, again_r, lookT, eqPat, eqTag, reduceCtorEq, Nat.reduceEqDiff, Nat.reduceAdd, Nat.reduceSub, Nat.reduceMul, Nat.reduceDiv, Nat.reduceLeDiff, Nat.reduceLT, Int.reduceToNat, Int.reduceLT, Int.reduceLE, Int.reduceAdd, Int.reduceSub, Int.reduceMul, Int.reduceNeg, Int.reduceEq, Int.reduceNe, wrap64, false_imp_iff, true_imp_iff, eq_self, decide_true, decide_false, Int.cast_ofNat_Int,  true_and, and_true, false_and, and_false, imp_self, implies_true, List.getElem?_cons_zero, List.getElem?_cons_succ, List.length_cons, List.length_nil, List.append_nil, List.nil_append, List.cons_append, List.take_succ_cons, List.take_zero, List.drop_succ_cons, List.drop_zero, List.take_nil, List.drop_nil, List.reverse_cons, List.reverse_nil, List.map_cons, List.map_nil, Nat.zero_add, Nat.add_zero, frOf, den_nil, den_o0, ↓gd_tt, ↓gd_ff, ↓gd_tf, ↓gd_ft, gd_any, den_o1, kont_app, den_g, setv, Bool.not_true, Bool.not_false, den_skip, den_reg, den_regD, den_regP, den_A, den_seq, den_cond, den_block, den_exit, den_ret, den_b, den_xb, den_xo, den_xc, den_xu, den_rb, den_ro, den_rc, den_ru, den_u, den_loopU, finP_r, finP_n, finP_x, ↓reduceIte, ↓e_box, ↓e_build, ↓e_bslice, ↓e_load, ↓e_store, ↓e_idxS, ↓e_idxV, ↓e_idxT, ↓e_fieldV, ↓e_eqv, ↓e_isNil, ↓e_b2s, ↓e_slcS, ↓e_arrAt, ↓e_ext, ↓e_app, ↓e_copy, ↓e_mv, ↓e_pick, ↓e_new, ↓e_nilc, ↓e_fld, ↓e_idxA, ↓e_bin, ↓e_eqb, ↓e_un, ↓e_conv, ↓e_strS, ↓e_s2b, ↓e_mkfn, ↓e_mksl, ↓e_slcA, ↓e_slcT, ↓e_call, ↓e_callp, ↓e_callv, ↓e_len, ↓e_lenA, ↓e_mx, ↓e_mn, ↓u_onInt, ↓u_onBool, ↓u_onOpt0, ↓u_onOpt1, ↓u_binV, ↓u_srcOf, ↓u_srcSl, ↓binI, ↓binS, ↓fillE, ↓evRes, evA, Opd.ev, Sx.get, put, putO, del, dels, frD, memD, pickD, kills, views, newer, rd, rm, upd, splice, SV.cells?, SV.one, retOf]
      repeat' (first | apply And.intro | intro)
      all_goals
        simp only [SV.bool.injEq, decide_eq_true_eq, decide_eq_false_iff_not, alarmB, decide_eq_decide, Bool.false_eq, Bool.true_eq, true_and, false_and, or_false, false_or, not_false_eq_true, Int.reduceEq, Int.reduceBNe, Int.reduceBEq, reduceCtorEq] at *
        try omega
  · have hk : knownB s = false := by simp [knownB]; omega
    simp (config := { maxSteps := 1000000 }) only [hk, tab1, ↓g35, SV.flatL, SV.flat, Bool.and_true, Bool.and_self, Bool.true_and, beq_self_eq_true, Int.reduceGE, Int.reduceGT, ↓u_callAnd, Blk.mk.injEq, List.cons.injEq, SV.int.injEq, SV.bool.injEq, SV.tup.injEq, SV.agg.injEq, and_self, undef, Int.reduceBNe, Int.reduceBEq, Nat.reduceBNe, Nat.reduceBEq, ↓u_callX, lookF, setv, finO_r, finO_n, finO_x, again_n, again_x, again_r, lookT, eqPat, eqTag, reduceCtorEq, Nat.reduceEqDiff, Nat.reduceAdd, Nat.reduceSub, Nat.reduceMul, Nat.reduceDiv, Nat.reduceLeDiff, Nat.reduceLT, Int.reduceToNat, Int.reduceLT, Int.reduceLE, Int.reduceAdd, Int.reduceSub, Int.reduceMul, Int.reduceNeg, Int.reduceEq, Int.reduceNe, wrap64, false_imp_iff, true_imp_iff, eq_self, decide_true, decide_false, Int.cast_ofNat_Int,  true_and, and_true, false_and, and_false, imp_self, implies_true, List.getElem?_cons_zero, List.getElem?_cons_succ, List.length_cons, List.length_nil, List.append_nil, List.nil_append, List.cons_append, List.take_succ_cons, List.take_zero, List.drop_succ_cons, List.drop_zero, List.take_nil, List.drop_nil, List.reverse_cons, List.reverse_nil, List.map_cons, List.map_nil, Nat.zero_add, Nat.add_zero, frOf, den_nil, den_o0, ↓gd_tt, ↓gd_ff, ↓gd_tf, ↓gd_ft, gd_any, den_o1, kont_app, den_g, setv, Bool.not_true, Bool.not_false, den_skip, den_reg, den_regD, den_regP, den_A, den_seq, den_cond, den_block, den_exit, den_ret, den_b, den_xb, den_xo, den_xc, den_xu, den_rb, den_ro, den_rc, den_ru, den_u, den_loopU, finP_r, finP_n, finP_x, ↓reduceIte, ↓e_box, ↓e_build, ↓e_bslice, ↓e_load, ↓e_store, ↓e_idxS, ↓e_idxV, ↓e_idxT, ↓e_fieldV, ↓e_eqv, ↓e_isNil, ↓e_b2s, ↓e_slcS, ↓e_arrAt, ↓e_ext, ↓e_app, ↓e_copy, ↓e_mv, ↓e_pick, ↓e_new, ↓e_nilc, ↓e_fld, ↓e_idxA, ↓e_bin, ↓e_eqb, ↓e_un, ↓e_conv, ↓e_strS, ↓e_s2b, ↓e_mkfn, ↓e_mksl, ↓e_slcA, ↓e_slcT, ↓e_call, ↓e_callp, ↓e_callv, ↓e_len, ↓e_lenA, ↓e_mx, ↓e_mn, ↓u_onInt, ↓u_onBool, ↓u_onOpt0, ↓u_onOpt1, ↓u_binV, ↓u_srcOf, ↓u_srcSl, ↓binI, ↓binS, ↓fillE, ↓evRes, evA, Opd.ev, Sx.get, put, putO, del, dels, frD, memD, pickD, kills, views, newer, rd, rm, upd, splice, SV.cells?, SV.one, retOf]
    simp [alarmB]
    omega

theorem f27 (m t a b c d : Int) : Fun Tryd.prog tS 27 [.agg [I m, I t, I a, I b, I c, I d]] [] 0 (I (IntKind.i64.wrap (IntKind.i64.wrap (IntKind.i64.wrap (a + b) + c) + d))) [] 0 := by
  refine fun_pure (some 5) (callX tab0) (callX_ok tab0_ok) chk27 (show 1 ≤ 18 by decide) (by intro; rfl) ?_
  unfold sf27
  simp (config := { maxSteps := 1000000 }) only [SV.flatL, SV.flat, Bool.and_true, Bool.and_self, Bool.true_and, beq_self_eq_true, Int.reduceGE, Int.reduceGT, ↓u_callAnd, Blk.mk.injEq, List.cons.injEq, SV.int.injEq, SV.bool.injEq, SV.tup.injEq, SV.agg.injEq, and_self, undef, Int.reduceBNe, Int.reduceBEq, Nat.reduceBNe, Nat.reduceBEq, ↓u_callX, lookF, setv, finO_r, finO_n, finO_x, again_n, again_x, again_r, lookT, eqPat, eqTag, reduceCtorEq, Nat.reduceEqDiff, Nat.reduceAdd, Nat.reduceSub, Nat.reduceMul, Nat.reduceDiv, Nat.reduceLeDiff, Nat.reduceLT, Int.reduceToNat, Int.reduceLT, Int.reduceLE, Int.reduceAdd, Int.reduceSub, Int.reduceMul, Int.reduceNeg, Int.reduceEq, Int.reduceNe, wrap64, false_imp_iff, true_imp_iff, eq_self, decide_true, decide_false, Int.cast_ofNat_Int,  true_and, and_true, false_and, and_false, imp_self, implies_true, List.getElem?_cons_zero, List.getElem?_cons_succ, List.length_cons, List.length_nil, List.append_nil, List.nil_append, List.cons_append, List.take_succ_cons, List.take_zero, List.drop_succ_cons, List.drop_zero, List.take_nil, List.drop_nil, List.reverse_cons, List.reverse_nil, List.map_cons, List.map_nil, Nat.zero_add, Nat.add_zero, frOf, den_nil, den_o0, ↓gd_tt, ↓gd_ff, ↓gd_tf, ↓gd_ft, gd_any, den_o1, kont_app, den_g, setv, Bool.not_true, Bool.not_false, den_skip, den_reg, den_regD, den_regP, den_A, den_seq, den_cond, den_block, den_exit, den_ret, den_b, den_xb, den_xo, den_xc, den_xu, den_rb, den_ro, den_rc, den_ru, den_u, den_loopU, finP_r, finP_n, finP_x, ↓reduceIte, ↓e_box, ↓e_build, ↓e_bslice, ↓e_load, ↓e_store, ↓e_idxS, ↓e_idxV, ↓e_idxT, ↓e_fieldV, ↓e_eqv, ↓e_isNil, ↓e_b2s, ↓e_slcS, ↓e_arrAt, ↓e_ext, ↓e_app, ↓e_copy, ↓e_mv, ↓e_pick, ↓e_new, ↓e_nilc, ↓e_fld, ↓e_idxA, ↓e_bin, ↓e_eqb, ↓e_un, ↓e_conv, ↓e_strS, ↓e_s2b, ↓e_mkfn, ↓e_mksl, ↓e_slcA, ↓e_slcT, ↓e_call, ↓e_callp, ↓e_callv, ↓e_len, ↓e_lenA, ↓e_mx, ↓e_mn, ↓u_onInt, ↓u_onBool, ↓u_onOpt0, ↓u_onOpt1, ↓u_binV, ↓u_srcOf, ↓u_srcSl, ↓binI, ↓binS, ↓fillE, ↓evRes, evA, Opd.ev, Sx.get, put, putO, del, dels, frD, memD, pickD, kills, views, newer, rd, rm, upd, splice, SV.cells?, SV.one, retOf]
def g29 : List SV → Option SV
  | [.agg [.int .i64 m, .int .i64 t, .int .i64 a, .int .i64 b, .int .i64 c, .int .i64 d]] => some (.bool (validB m t a b c d))
  | _ => none
def g27 : List SV → Option SV
  | [.agg [.int .i64 _, .int .i64 _, .int .i64 a, .int .i64 b, .int .i64 c, .int .i64 d]] => some (I (IntKind.i64.wrap (IntKind.i64.wrap (IntKind.i64.wrap (a + b) + c) + d)))
  | _ => none
def tab2 : Tab := ⟨[(18, g18), (29, g29), (23, g23), (27, g27), (30, g30), (35, g35), (25, g25), (21, g21)], []⟩
theorem tab2_ok : TabX Tryd.prog tS tab2 := by
  refine ⟨fun x h => ?_, fun x h => by simp [tab2] at h⟩
  simp only [tab2, List.mem_cons, List.not_mem_nil, or_false] at h
  rcases h with rfl | rfl | rfl | rfl | h
  · intro args r hr
    simp only [g18] at hr
    split at hr <;> cases hr
    exact ⟨f18 _ _ _ _ _ _, fun _ => rfl, fun _ => rfl⟩
  · intro args r hr
    simp only [g29] at hr
    split at hr <;> cases hr
    exact ⟨f29 _ _ _ _ _ _, fun _ => rfl, fun _ => rfl⟩
  · intro args r hr
    simp only [g23] at hr
    split at hr <;> cases hr
    exact ⟨f23 _ _, fun _ => rfl, fun _ => rfl⟩
  · intro args r hr
    simp only [g27] at hr
    split at hr <;> cases hr
    exact ⟨f27 _ _ _ _ _ _, fun _ => rfl, fun _ => rfl⟩
  · exact tab1_ok.p x (by simp only [tab1, List.mem_cons, List.not_mem_nil, or_false]; exact h)
end Go.Proofs.YtflkcganpgjkkaaDoor
