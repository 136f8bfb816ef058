/- What the rest of the methods of a change of package tamper compute. -/
import Derived.Test.YtflkcganpgjkkaaDoorTamB
namespace Go.Proofs.YtflkcganpgjkkaaDoor
open Go Go.Sx Sf
set_option maxRecDepth 100000
set_option linter.unusedSimpArgs false
set_option linter.unusedVariables false

def escq (m T s : Int) : Int := if s = 1 ∨ 12 ≤ T then 4 else if 6 ≤ T then 3 else if 1 ≤ T then 2 else m
def esc (m T s l : Int) : Int := if alarmB s l = true then (if escq m T s > m then escq m T s else m) else m

theorem f34 (m t a b c d s l n : Int) (hs : Sc a b c d) :
    Fun Tryd.prog tS 34 [.ptr 0 0] [(0, ⟨.own 57, [I m, I t, I a, I b, I c, I d, I s, I l, I n]⟩)] 1 (.tup [])
      [(0, ⟨.own 57, [I (esc m (a + b + c + d) s l), I t, I a, I b, I c, I d, I s, I l, I n]⟩)] 1 := by
  refine fun_own (some 5) (callX tab2) (callX_ok tab2_ok) chk34 (show 1 ≤ 49 by decide) (fun _ => rfl) (fun _ => rfl) ?_
  unfold sf34
  have hw := sumW_eq hs
  generalize hT : a + b + c + d = T at *
  cases hal : alarmB s l with
  | false =>
    simp (config := { maxSteps := 1000000 }) only [esc, Bool.false_eq_true, hal, hw, tab2, ↓g23, ↓g21, SV.flatL, SV.flat, Bool.and_true, Bool.and_self, Bool.true_and, beq_self_eq_true, Int.reduceGE, Int.reduceGT, ↓u_callAnd, Blk.mk.injEq, List.cons.injEq, SV.int.injEq, SV.bool.injEq, SV.tup.injEq, SV.agg.injEq, and_self, undef, Int.reduceBNe, Int.reduceBEq, Nat.reduceBNe, Nat.reduceBEq, ↓u_callX, lookF, setv, finO_r, finO_n, finO_x, again_n, again_x, again_r, lookT, eqPat, eqTag, reduceCtorEq, Nat.reduceEqDiff, Nat.reduceAdd, Nat.reduceSub, Nat.reduceMul, Nat.reduceDiv, Nat.reduceLeDiff, Nat.reduceLT, Int.reduceToNat, Int.reduceLT, Int.reduceLE, Int.reduceAdd, Int.reduceSub, Int.reduceMul, Int.reduceNeg, Int.reduceEq, Int.reduceNe, wrap64, false_imp_iff, true_imp_iff, eq_self, decide_true, decide_false, Int.cast_ofNat_Int,  true_and, and_true, false_and, and_false, imp_self, implies_true, List.getElem?_cons_zero, List.getElem?_cons_succ, List.length_cons, List.length_nil, List.append_nil, List.nil_append, List.cons_append, List.take_succ_cons, List.take_zero, List.drop_succ_cons, List.drop_zero, List.take_nil, List.drop_nil, List.reverse_cons, List.reverse_nil, List.map_cons, List.map_nil, Nat.zero_add, Nat.add_zero, frOf, den_nil, den_o0, ↓gd_tt, ↓gd_ff, ↓gd_tf, ↓gd_ft, gd_any, den_o1, kont_app, den_g, setv, Bool.not_true, Bool.not_false, den_skip, den_reg, den_regD, den_regP, den_A, den_seq, den_cond, den_block, den_exit, den_ret, den_b, den_xb, den_xo, den_xc, den_xu, den_rb, den_ro, den_rc, den_ru, den_u, den_loopU, finP_r, finP_n, finP_x, ↓reduceIte, ↓e_box, ↓e_build, ↓e_bslice, ↓e_load, ↓e_store, ↓e_idxS, ↓e_idxV, ↓e_idxT, ↓e_fieldV, ↓e_eqv, ↓e_isNil, ↓e_b2s, ↓e_slcS, ↓e_arrAt, ↓e_ext, ↓e_app, ↓e_copy, ↓e_mv, ↓e_pick, ↓e_new, ↓e_nilc, ↓e_fld, ↓e_idxA, ↓e_bin, ↓e_eqb, ↓e_un, ↓e_conv, ↓e_strS, ↓e_s2b, ↓e_mkfn, ↓e_mksl, ↓e_slcA, ↓e_slcT, ↓e_call, ↓e_callp, ↓e_callv, ↓e_len, ↓e_lenA, ↓e_mx, ↓e_mn, ↓u_onInt, ↓u_onBool, ↓u_onOpt0, ↓u_onOpt1, ↓u_binV, ↓u_srcOf, ↓u_srcSl, ↓binI, ↓binS, ↓fillE, ↓evRes, evA, Opd.ev, Sx.get, put, putO, del, dels, frD, memD, pickD, kills, views, newer, rd, rm, upd, splice, SV.cells?, SV.one, retOf]
  | true =>
    simp (config := { maxSteps := 1000000 }) only [hal, hw, tab2, ↓g23, ↓g21, SV.flatL, SV.flat, Bool.and_true, Bool.and_self, Bool.true_and, beq_self_eq_true, Int.reduceGE, Int.reduceGT, ↓u_callAnd, Blk.mk.injEq, List.cons.injEq, SV.int.injEq, SV.bool.injEq, SV.tup.injEq, SV.agg.injEq, and_self, undef, Int.reduceBNe, Int.reduceBEq, Nat.reduceBNe, Nat.reduceBEq, ↓u_callX, lookF, setv, finO_r, finO_n, finO_x, again_n, again_x, again_r, lookT, eqPat, eqTag, reduceCtorEq, Nat.reduceEqDiff, Nat.reduceAdd, Nat.reduceSub, Nat.reduceMul, Nat.reduceDiv, Nat.reduceLeDiff, Nat.reduceLT, Int.reduceToNat, Int.reduceLT, Int.reduceLE, Int.reduceAdd, Int.reduceSub, Int.reduceMul, Int.reduceNeg, Int.reduceEq, Int.reduceNe, wrap64, false_imp_iff, true_imp_iff, eq_self, decide_true, decide_false, Int.cast_ofNat_Int,  true_and, and_true, false_and, and_false, imp_self, implies_true, List.getElem?_cons_zero, List.getElem?_cons_succ, List.length_cons, List.length_nil, List.append_nil, List.nil_append, List.cons_append, List.take_succ_cons, List.take_zero, List.drop_succ_cons, List.drop_zero, List.take_nil, List.drop_nil, List.reverse_cons, List.reverse_nil, List.map_cons, List.map_nil, Nat.zero_add, Nat.add_zero, frOf, den_nil, den_o0, ↓gd_tt, ↓gd_ff, ↓gd_tf, ↓gd_ft, gd_any, den_o1, kont_app, den_g, setv, Bool.not_true, Bool.not_false, den_skip, den_reg, den_regD, den_regP, den_A, den_seq, den_cond, den_block, den_exit, den_ret, den_b, den_xb, den_xo, den_xc, den_xu, den_rb, den_ro, den_rc, den_ru, den_u, den_loopU, finP_r, finP_n, finP_x, ↓reduceIte, ↓e_box, ↓e_build, ↓e_bslice, ↓e_load, ↓e_store, ↓e_idxS, ↓e_idxV, ↓e_idxT, ↓e_fieldV, ↓e_eqv, ↓e_isNil, ↓e_b2s, ↓e_slcS, ↓e_arrAt, ↓e_ext, ↓e_app, ↓e_copy, ↓e_mv, ↓e_pick, ↓e_new, ↓e_nilc, ↓e_fld, ↓e_idxA, ↓e_bin, ↓e_eqb, ↓e_un, ↓e_conv, ↓e_strS, ↓e_s2b, ↓e_mkfn, ↓e_mksl, ↓e_slcA, ↓e_slcT, ↓e_call, ↓e_callp, ↓e_callv, ↓e_len, ↓e_lenA, ↓e_mx, ↓e_mn, ↓u_onInt, ↓u_onBool, ↓u_onOpt0, ↓u_onOpt1, ↓u_binV, ↓u_srcOf, ↓u_srcSl, ↓binI, ↓binS, ↓fillE, ↓evRes, evA, Opd.ev, Sx.get, put, putO, del, dels, frD, memD, pickD, kills, views, newer, rd, rm, upd, splice, SV.cells?, SV.one, retOf]
    repeat' (first | apply And.intro | intro)
    all_goals
      simp only [beq_iff_eq, beq_eq_false_iff_ne, ne_eq, decide_eq_true_eq, decide_eq_false_iff_not, esc, escq, hal, if_true] at *
      try (repeat' split) <;> omega

def scB (a b c d : Int) : Bool := decide ((0 ≤ a ∧ a ≤ 100) ∧ (0 ≤ b ∧ b ≤ 100) ∧ (0 ≤ c ∧ c ≤ 100) ∧ (0 ≤ d ∧ d ≤ 100))
def tiB (t n : Int) : Bool := decide (0 ≤ t ∧ t ≤ n ∧ n ≤ 1099511627776)
theorem scB_iff {a b c d : Int} : scB a b c d = true ↔ Sc a b c d := by simp [scB, Sc]
theorem tiB_iff {t n : Int} : tiB t n = true ↔ Ti t n := by simp [tiB, Ti]

def g32 : List SV → List SV → Option (SV × List SV)
  | [], [.int .i64 m, .int .i64 t, .int .i64 a, .int .i64 b, .int .i64 c, .int .i64 d, .int .i64 s, .int .i64 l, .int .i64 n] =>
    if (scB a b c d && tiB t n) = true then
      some (.tup [], [I (pM m a b c d (kk t n)), I (t + 60 * kk t n), I (dec a (kk t n)), I (dec b (kk t n)), I (dec c (kk t n)), I (dec d (kk t n)), I s, I l, I n])
    else none
  | _, _ => none
def g33 : List SV → List SV → Option (SV × List SV)
  | [], [.int .i64 m, .int .i64 t, .int .i64 a, .int .i64 b, .int .i64 c, .int .i64 d, .int .i64 s, .int .i64 l, .int .i64 n] =>
    if scB a b c d = true then some (.tup [], [I m, I t, I (cnt 1 a s l), I (cnt 2 b s l), I (cnt 3 c s l), I (cnt 4 d s l), I s, I l, I n]) else none
  | _, _ => none
def g34 : List SV → List SV → Option (SV × List SV)
  | [], [.int .i64 m, .int .i64 t, .int .i64 a, .int .i64 b, .int .i64 c, .int .i64 d, .int .i64 s, .int .i64 l, .int .i64 n] =>
    if scB a b c d = true then some (.tup [], [I (esc m (a + b + c + d) s l), I t, I a, I b, I c, I d, I s, I l, I n]) else none
  | _, _ => none
def tab3 : Tab := ⟨tab2.p, [(32, 57, g32), (33, 57, g33), (34, 57, g34)]⟩
theorem tab3_ok : TabX Tryd.prog tS tab3 := by
  refine ⟨tab2_ok.p, fun x h => ?_⟩
  simp only [tab3, List.mem_cons, List.not_mem_nil, or_false] at h
  rcases h with rfl | rfl | rfl
  · intro args cells r cells' hr
    simp only [g32] at hr
    split at hr
    · split at hr
      · rename_i hq
        cases hr
        simp only [Bool.and_eq_true, scB_iff, tiB_iff] at hq
        exact ⟨f32 _ _ _ _ _ _ _ _ _ hq.1 hq.2, fun _ => rfl, fun _ => rfl, fun _ => rfl, fun _ => rfl⟩
      · cases hr
    · cases hr
  · intro args cells r cells' hr
    simp only [g33] at hr
    split at hr
    · split at hr
      · rename_i hq
        cases hr
        exact ⟨f33 _ _ _ _ _ _ _ _ _ (scB_iff.1 hq), fun _ => rfl, fun _ => rfl, fun _ => rfl, fun _ => rfl⟩
      · cases hr
    · cases hr
  · intro args cells r cells' hr
    simp only [g34] at hr
    split at hr
    · split at hr
      · rename_i hq
        cases hr
        exact ⟨f34 _ _ _ _ _ _ _ _ _ (scB_iff.1 hq), fun _ => rfl, fun _ => rfl, fun _ => rfl, fun _ => rfl⟩
      · cases hr
    · cases hr

def zT : SV := .agg [I 0, I 0, I 0, I 0, I 0, I 0]
theorem f31_bad (m t a b c d s l n : Int) (k : Nat) (B : Blk) (h : ¬ (validB m t a b c d = true ∧ timeB n = true)) :
    Fun Tryd.prog tS 31 [.ptr 0 0, .slc 1 0 1 k (some k)] [(0, ⟨.own 57, [I m, I t, I a, I b, I c, I d, I s, I l, I n]⟩), (1, B)] 2 (.tup [zT, I 1]) [] 2 := by
  refine fun_val (some 5) (callX tab3) (callX_ok tab3_ok) chk31 (show 2 ≤ 63 by decide) (fun _ => rfl) ?_
  unfold sf31
  cases hv : validB m t a b c d with
  | false => simp (config := { maxSteps := 1000000 }) only [zT, hv, tab3, tab2, ↓g18, ↓g30, SV.flatL, SV.flat, Bool.and_true, Bool.and_self, Bool.true_and, beq_self_eq_true, Int.reduceGE, Int.reduceGT, ↓u_callAnd, Blk.mk.injEq, List.cons.injEq, SV.int.injEq, SV.bool.injEq, SV.tup.injEq, SV.agg.injEq, and_self, undef, Int.reduceBNe, Int.reduceBEq, Nat.reduceBNe, Nat.reduceBEq, ↓u_callX, lookF, setv, finO_r, finO_n, finO_x, again_n, again_x, again_r, lookT, eqPat, eqTag, reduceCtorEq, Nat.reduceEqDiff, Nat.reduceAdd, Nat.reduceSub, Nat.reduceMul, Nat.reduceDiv, Nat.reduceLeDiff, Nat.reduceLT, Int.reduceToNat, Int.reduceLT, Int.reduceLE, Int.reduceAdd, Int.reduceSub, Int.reduceMul, Int.reduceNeg, Int.reduceEq, Int.reduceNe, wrap64, false_imp_iff, true_imp_iff, eq_self, decide_true, decide_false, Int.cast_ofNat_Int,  true_and, and_true, false_and, and_false, imp_self, implies_true, List.getElem?_cons_zero, List.getElem?_cons_succ, List.length_cons, List.length_nil, List.append_nil, List.nil_append, List.cons_append, List.take_succ_cons, List.take_zero, List.drop_succ_cons, List.drop_zero, List.take_nil, List.drop_nil, List.reverse_cons, List.reverse_nil, List.map_cons, List.map_nil, Nat.zero_add, Nat.add_zero, frOf, den_nil, den_o0, ↓gd_tt, ↓gd_ff, ↓gd_tf, ↓gd_ft, gd_any, den_o1, kont_app, den_g, setv, Bool.not_true, Bool.not_false, den_skip, den_reg, den_regD, den_regP, den_A, den_seq, den_cond, den_block, den_exit, den_ret, den_b, den_xb, den_xo, den_xc, den_xu, den_rb, den_ro, den_rc, den_ru, den_u, den_loopU, finP_r, finP_n, finP_x, ↓reduceIte, ↓e_box, ↓e_build, ↓e_bslice, ↓e_load, ↓e_store, ↓e_idxS, ↓e_idxV, ↓e_idxT, ↓e_fieldV, ↓e_eqv, ↓e_isNil, ↓e_b2s, ↓e_slcS, ↓e_arrAt, ↓e_ext, ↓e_app, ↓e_copy, ↓e_mv, ↓e_pick, ↓e_new, ↓e_nilc, ↓e_fld, ↓e_idxA, ↓e_bin, ↓e_eqb, ↓e_un, ↓e_conv, ↓e_strS, ↓e_s2b, ↓e_mkfn, ↓e_mksl, ↓e_slcA, ↓e_slcT, ↓e_call, ↓e_callp, ↓e_callv, ↓e_len, ↓e_lenA, ↓e_mx, ↓e_mn, ↓u_onInt, ↓u_onBool, ↓u_onOpt0, ↓u_onOpt1, ↓u_binV, ↓u_srcOf, ↓u_srcSl, ↓binI, ↓binS, ↓fillE, ↓evRes, evA, Opd.ev, Sx.get, put, putO, del, dels, frD, memD, pickD, kills, views, newer, rd, rm, upd, splice, SV.cells?, SV.one, retOf]
  | true =>
    have hn : timeB n = false := by simpa [hv] using h
    simp (config := { maxSteps := 1000000 }) only [zT, hv, hn, tab3, tab2, ↓g18, ↓g30, SV.flatL, SV.flat, Bool.and_true, Bool.and_self, Bool.true_and, beq_self_eq_true, Int.reduceGE, Int.reduceGT, ↓u_callAnd, Blk.mk.injEq, List.cons.injEq, SV.int.injEq, SV.bool.injEq, SV.tup.injEq, SV.agg.injEq, and_self, undef, Int.reduceBNe, Int.reduceBEq, Nat.reduceBNe, Nat.reduceBEq, ↓u_callX, lookF, setv, finO_r, finO_n, finO_x, again_n, again_x, again_r, lookT, eqPat, eqTag, reduceCtorEq, Nat.reduceEqDiff, Nat.reduceAdd, Nat.reduceSub, Nat.reduceMul, Nat.reduceDiv, Nat.reduceLeDiff, Nat.reduceLT, Int.reduceToNat, Int.reduceLT, Int.reduceLE, Int.reduceAdd, Int.reduceSub, Int.reduceMul, Int.reduceNeg, Int.reduceEq, Int.reduceNe, wrap64, false_imp_iff, true_imp_iff, eq_self, decide_true, decide_false, Int.cast_ofNat_Int,  true_and, and_true, false_and, and_false, imp_self, implies_true, List.getElem?_cons_zero, List.getElem?_cons_succ, List.length_cons, List.length_nil, List.append_nil, List.nil_append, List.cons_append, List.take_succ_cons, List.take_zero, List.drop_succ_cons, List.drop_zero, List.take_nil, List.drop_nil, List.reverse_cons, List.reverse_nil, List.map_cons, List.map_nil, Nat.zero_add, Nat.add_zero, frOf, den_nil, den_o0, ↓gd_tt, ↓gd_ff, ↓gd_tf, ↓gd_ft, gd_any, den_o1, kont_app, den_g, setv, Bool.not_true, Bool.not_false, den_skip, den_reg, den_regD, den_regP, den_A, den_seq, den_cond, den_block, den_exit, den_ret, den_b, den_xb, den_xo, den_xc, den_xu, den_rb, den_ro, den_rc, den_ru, den_u, den_loopU, finP_r, finP_n, finP_x, ↓reduceIte, ↓e_box, ↓e_build, ↓e_bslice, ↓e_load, ↓e_store, ↓e_idxS, ↓e_idxV, ↓e_idxT, ↓e_fieldV, ↓e_eqv, ↓e_isNil, ↓e_b2s, ↓e_slcS, ↓e_arrAt, ↓e_ext, ↓e_app, ↓e_copy, ↓e_mv, ↓e_pick, ↓e_new, ↓e_nilc, ↓e_fld, ↓e_idxA, ↓e_bin, ↓e_eqb, ↓e_un, ↓e_conv, ↓e_strS, ↓e_s2b, ↓e_mkfn, ↓e_mksl, ↓e_slcA, ↓e_slcT, ↓e_call, ↓e_callp, ↓e_callv, ↓e_len, ↓e_lenA, ↓e_mx, ↓e_mn, ↓u_onInt, ↓u_onBool, ↓u_onOpt0, ↓u_onOpt1, ↓u_binV, ↓u_srcOf, ↓u_srcSl, ↓binI, ↓binS, ↓fillE, ↓evRes, evA, Opd.ev, Sx.get, put, putO, del, dels, frD, memD, pickD, kills, views, newer, rd, rm, upd, splice, SV.cells?, SV.one, retOf]
theorem f31_back (m t a b c d s l n : Int) (k : Nat) (B : Blk) (hv : validB m t a b c d = true) (hn : timeB n = true) (h : n < t) :
    Fun Tryd.prog tS 31 [.ptr 0 0, .slc 1 0 1 k (some k)] [(0, ⟨.own 57, [I m, I t, I a, I b, I c, I d, I s, I l, I n]⟩), (1, B)] 2 (.tup [zT, I 20]) [] 2 := by
  refine fun_val (some 5) (callX tab3) (callX_ok tab3_ok) chk31 (show 2 ≤ 63 by decide) (fun _ => rfl) ?_
  unfold sf31
  have h' : decide (n < t) = true := decide_eq_true h
  simp (config := { maxSteps := 1000000 }) only [zT, hv, hn, h, tab3, tab2, ↓g18, ↓g30, SV.flatL, SV.flat, Bool.and_true, Bool.and_self, Bool.true_and, beq_self_eq_true, Int.reduceGE, Int.reduceGT, ↓u_callAnd, Blk.mk.injEq, List.cons.injEq, SV.int.injEq, SV.bool.injEq, SV.tup.injEq, SV.agg.injEq, and_self, undef, Int.reduceBNe, Int.reduceBEq, Nat.reduceBNe, Nat.reduceBEq, ↓u_callX, lookF, setv, finO_r, finO_n, finO_x, again_n, again_x, again_r, lookT, eqPat, eqTag, reduceCtorEq, Nat.reduceEqDiff, Nat.reduceAdd, Nat.reduceSub, Nat.reduceMul, Nat.reduceDiv, Nat.reduceLeDiff, Nat.reduceLT, Int.reduceToNat, Int.reduceLT, Int.reduceLE, Int.reduceAdd, Int.reduceSub, Int.reduceMul, Int.reduceNeg, Int.reduceEq, Int.reduceNe, wrap64, false_imp_iff, true_imp_iff, eq_self, decide_true, decide_false, Int.cast_ofNat_Int,  true_and, and_true, false_and, and_false, imp_self, implies_true, List.getElem?_cons_zero, List.getElem?_cons_succ, List.length_cons, List.length_nil, List.append_nil, List.nil_append, List.cons_append, List.take_succ_cons, List.take_zero, List.drop_succ_cons, List.drop_zero, List.take_nil, List.drop_nil, List.reverse_cons, List.reverse_nil, List.map_cons, List.map_nil, Nat.zero_add, Nat.add_zero, frOf, den_nil, den_o0, ↓gd_tt, ↓gd_ff, ↓gd_tf, ↓gd_ft, gd_any, den_o1, kont_app, den_g, setv, Bool.not_true, Bool.not_false, den_skip, den_reg, den_regD, den_regP, den_A, den_seq, den_cond, den_block, den_exit, den_ret, den_b, den_xb, den_xo, den_xc, den_xu, den_rb, den_ro, den_rc, den_ru, den_u, den_loopU, finP_r, finP_n, finP_x, ↓reduceIte, ↓e_box, ↓e_build, ↓e_bslice, ↓e_load, ↓e_store, ↓e_idxS, ↓e_idxV, ↓e_idxT, ↓e_fieldV, ↓e_eqv, ↓e_isNil, ↓e_b2s, ↓e_slcS, ↓e_arrAt, ↓e_ext, ↓e_app, ↓e_copy, ↓e_mv, ↓e_pick, ↓e_new, ↓e_nilc, ↓e_fld, ↓e_idxA, ↓e_bin, ↓e_eqb, ↓e_un, ↓e_conv, ↓e_strS, ↓e_s2b, ↓e_mkfn, ↓e_mksl, ↓e_slcA, ↓e_slcT, ↓e_call, ↓e_callp, ↓e_callv, ↓e_len, ↓e_lenA, ↓e_mx, ↓e_mn, ↓u_onInt, ↓u_onBool, ↓u_onOpt0, ↓u_onOpt1, ↓u_binV, ↓u_srcOf, ↓u_srcSl, ↓binI, ↓binS, ↓fillE, ↓evRes, evA, Opd.ev, Sx.get, put, putO, del, dels, frD, memD, pickD, kills, views, newer, rd, rm, upd, splice, SV.cells?, SV.one, retOf]
theorem f31_unk (m t a b c d s l n : Int) (k : Nat) (B : Blk) (hv : validB m t a b c d = true) (hn : timeB n = true) (h : ¬ n < t) (hk : knownB s = false) :
    Fun Tryd.prog tS 31 [.ptr 0 0, .slc 1 0 1 k (some k)] [(0, ⟨.own 57, [I m, I t, I a, I b, I c, I d, I s, I l, I n]⟩), (1, B)] 2 (.tup [zT, I 1]) [] 2 := by
  refine fun_val (some 5) (callX tab3) (callX_ok tab3_ok) chk31 (show 2 ≤ 63 by decide) (fun _ => rfl) ?_
  unfold sf31
  simp (config := { maxSteps := 1000000 }) only [zT, hv, hn, h, hk, tab3, tab2, ↓g18, ↓g30, ↓g35, SV.flatL, SV.flat, Bool.and_true, Bool.and_self, Bool.true_and, beq_self_eq_true, Int.reduceGE, Int.reduceGT, ↓u_callAnd, Blk.mk.injEq, List.cons.injEq, SV.int.injEq, SV.bool.injEq, SV.tup.injEq, SV.agg.injEq, and_self, undef, Int.reduceBNe, Int.reduceBEq, Nat.reduceBNe, Nat.reduceBEq, ↓u_callX, lookF, setv, finO_r, finO_n, finO_x, again_n, again_x, again_r, lookT, eqPat, eqTag, reduceCtorEq, Nat.reduceEqDiff, Nat.reduceAdd, Nat.reduceSub, Nat.reduceMul, Nat.reduceDiv, Nat.reduceLeDiff, Nat.reduceLT, Int.reduceToNat, Int.reduceLT, Int.reduceLE, Int.reduceAdd, Int.reduceSub, Int.reduceMul, Int.reduceNeg, Int.reduceEq, Int.reduceNe, wrap64, false_imp_iff, true_imp_iff, eq_self, decide_true, decide_false, Int.cast_ofNat_Int,  true_and, and_true, false_and, and_false, imp_self, implies_true, List.getElem?_cons_zero, List.getElem?_cons_succ, List.length_cons, List.length_nil, List.append_nil, List.nil_append, List.cons_append, List.take_succ_cons, List.take_zero, List.drop_succ_cons, List.drop_zero, List.take_nil, List.drop_nil, List.reverse_cons, List.reverse_nil, List.map_cons, List.map_nil, Nat.zero_add, Nat.add_zero, frOf, den_nil, den_o0, ↓gd_tt, ↓gd_ff, ↓gd_tf, ↓gd_ft, gd_any, den_o1, kont_app, den_g, setv, Bool.not_true, Bool.not_false, den_skip, den_reg, den_regD, den_regP, den_A, den_seq, den_cond, den_block, den_exit, den_ret, den_b, den_xb, den_xo, den_xc, den_xu, den_rb, den_ro, den_rc, den_ru, den_u, den_loopU, finP_r, finP_n, finP_x, ↓reduceIte, ↓e_box, ↓e_build, ↓e_bslice, ↓e_load, ↓e_store, ↓e_idxS, ↓e_idxV, ↓e_idxT, ↓e_fieldV, ↓e_eqv, ↓e_isNil, ↓e_b2s, ↓e_slcS, ↓e_arrAt, ↓e_ext, ↓e_app, ↓e_copy, ↓e_mv, ↓e_pick, ↓e_new, ↓e_nilc, ↓e_fld, ↓e_idxA, ↓e_bin, ↓e_eqb, ↓e_un, ↓e_conv, ↓e_strS, ↓e_s2b, ↓e_mkfn, ↓e_mksl, ↓e_slcA, ↓e_slcT, ↓e_call, ↓e_callp, ↓e_callv, ↓e_len, ↓e_lenA, ↓e_mx, ↓e_mn, ↓u_onInt, ↓u_onBool, ↓u_onOpt0, ↓u_onOpt1, ↓u_binV, ↓u_srcOf, ↓u_srcSl, ↓binI, ↓binS, ↓fillE, ↓evRes, evA, Opd.ev, Sx.get, put, putO, del, dels, frD, memD, pickD, kills, views, newer, rd, rm, upd, splice, SV.cells?, SV.one, retOf]
end Go.Proofs.YtflkcganpgjkkaaDoor
