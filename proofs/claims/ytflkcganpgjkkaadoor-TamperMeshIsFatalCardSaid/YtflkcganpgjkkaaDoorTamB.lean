/- What the methods of a change of package tamper compute. -/
import Derived.Test.YtflkcganpgjkkaaDoorTamA
namespace Go.Proofs.YtflkcganpgjkkaaDoor
open Go Go.Sx Sf
set_option maxRecDepth 100000
set_option linter.unusedSimpArgs false
set_option linter.unusedVariables false

def kk (t n : Int) : Int := (n - t) / 60
def dec (a k : Int) : Int := if a - k > 0 then a - k else 0
def pM (m a b c d k : Int) : Int := if m = 2 ∧ dec a k + dec b k + dec c k + dec d k = 0 then 1 else m
/-- the scores are in range -/
def Sc (a b c d : Int) : Prop := (0 ≤ a ∧ a ≤ 100) ∧ (0 ≤ b ∧ b ≤ 100) ∧ (0 ≤ c ∧ c ≤ 100) ∧ (0 ≤ d ∧ d ≤ 100)
def Ti (t n : Int) : Prop := 0 ≤ t ∧ t ≤ n ∧ n ≤ 1099511627776

theorem dec_fold (a k : Int) : (if a - k > 0 then a - k else 0) = dec a k := rfl
theorem dec_range {a k : Int} (h : 0 ≤ a ∧ a ≤ 100) (hk : 0 ≤ k) : 0 ≤ dec a k ∧ dec a k ≤ 100 := by
  unfold dec; split <;> omega
theorem kk_range {t n : Int} (h : Ti t n) : 0 ≤ kk t n ∧ kk t n ≤ 18325193796 ∧ 60 * kk t n ≤ n - t := by
  unfold kk; obtain ⟨h1, h2, h3⟩ := h; omega
theorem sumW_eq {a b c d : Int} (h : Sc a b c d) : sumW a b c d = a + b + c + d := by
  obtain ⟨h1, h2, h3, h4⟩ := h
  unfold sumW
  rw [wrap64 (n := 0 + a) (by omega) (by omega), wrap64 (n := 0 + a + b) (by omega) (by omega), wrap64 (n := 0 + a + b + c) (by omega) (by omega), wrap64 (n := 0 + a + b + c + d) (by omega) (by omega)]
  omega

set_option maxHeartbeats 8000000 in
theorem f32 (m t a b c d s l n : Int) (hs : Sc a b c d) (ht : Ti t n) :
    Fun Tryd.prog tS 32 [.ptr 0 0] [(0, ⟨.own 57, [I m, I t, I a, I b, I c, I d, I s, I l, I n]⟩)] 1 (.tup [])
      [(0, ⟨.own 57, [I (pM m a b c d (kk t n)), I (t + 60 * kk t n), I (dec a (kk t n)), I (dec b (kk t n)), I (dec c (kk t n)), I (dec d (kk t n)), I s, I l, I n]⟩)] 1 := by
  refine fun_own (some 5) (callX tab2) (callX_ok tab2_ok) chk32 (show 1 ≤ 64 by decide) (fun _ => rfl) (fun _ => rfl) ?_
  unfold sf32
  obtain ⟨k1, k2, k3⟩ := kk_range ht
  obtain ⟨t1, t2, t3⟩ := ht
  obtain ⟨ha, hb, hc, hd⟩ := hs
  have w1 : IntKind.i64.wrap (n - t) = n - t := wrap64 (by omega) (by omega)
  have w2 : IntKind.i64.wrap ((n - t).tdiv 60) = kk t n := by
    rw [Int.tdiv_eq_ediv_of_nonneg (by omega), wrap64 (by omega) (by omega)]; rfl
  have hS : Sc (dec a (kk t n)) (dec b (kk t n)) (dec c (kk t n)) (dec d (kk t n)) := ⟨dec_range ha k1, dec_range hb k1, dec_range hc k1, dec_range hd k1⟩
  have hw := sumW_eq hS
  generalize hk : kk t n = k at *
  have wa : IntKind.i64.wrap (a - k) = a - k := wrap64 (by omega) (by omega)
  have wb : IntKind.i64.wrap (b - k) = b - k := wrap64 (by omega) (by omega)
  have wc : IntKind.i64.wrap (c - k) = c - k := wrap64 (by omega) (by omega)
  have wd : IntKind.i64.wrap (d - k) = d - k := wrap64 (by omega) (by omega)
  have wk : IntKind.i64.wrap (60 * k) = 60 * k := wrap64 (by omega) (by omega)
  have wt : IntKind.i64.wrap (t + 60 * k) = t + 60 * k := wrap64 (by omega) (by omega)
  simp (config := { maxSteps := 1000000 }) only [w1, w2, wa, wb, wc, wd, wk, wt, dec_fold, tab2, ↓g21, hw, SV.flatL, SV.flat, Bool.and_true, Bool.and_self, Bool.true_and, beq_self_eq_true, Int.reduceGE, Int.reduceGT, ↓u_callAnd, Blk.mk.injEq, List.cons.injEq, SV.int.injEq, SV.bool.injEq, SV.tup.injEq, SV.agg.injEq, and_self, undef, Int.reduceBNe, Int.reduceBEq, Nat.reduceBNe, Nat.reduceBEq, ↓u_callX, lookF, setv, finO_r, finO_n, finO_x, again_n, again_x, again_r, lookT, eqPat, eqTag, reduceCtorEq, Nat.reduceEqDiff, Nat.reduceAdd, Nat.reduceSub, Nat.reduceMul, Nat.reduceDiv, Nat.reduceLeDiff, Nat.reduceLT, Int.reduceToNat, Int.reduceLT, Int.reduceLE, Int.reduceAdd, Int.reduceSub, Int.reduceMul, Int.reduceNeg, Int.reduceEq, Int.reduceNe, wrap64, false_imp_iff, true_imp_iff, eq_self, decide_true, decide_false, Int.cast_ofNat_Int,  true_and, and_true, false_and, and_false, imp_self, implies_true, List.getElem?_cons_zero, List.getElem?_cons_succ, List.length_cons, List.length_nil, List.append_nil, List.nil_append, List.cons_append, List.take_succ_cons, List.take_zero, List.drop_succ_cons, List.drop_zero, List.take_nil, List.drop_nil, List.reverse_cons, List.reverse_nil, List.map_cons, List.map_nil, Nat.zero_add, Nat.add_zero, frOf, den_nil, den_o0, ↓gd_tt, ↓gd_ff, ↓gd_tf, ↓gd_ft, gd_any, den_o1, kont_app, den_g, setv, Bool.not_true, Bool.not_false, den_skip, den_reg, den_regD, den_regP, den_A, den_seq, den_cond, den_block, den_exit, den_ret, den_b, den_xb, den_xo, den_xc, den_xu, den_rb, den_ro, den_rc, den_ru, den_u, den_loopU, finP_r, finP_n, finP_x, ↓reduceIte, ↓e_box, ↓e_build, ↓e_bslice, ↓e_load, ↓e_store, ↓e_idxS, ↓e_idxV, ↓e_idxT, ↓e_fieldV, ↓e_eqv, ↓e_isNil, ↓e_b2s, ↓e_slcS, ↓e_arrAt, ↓e_ext, ↓e_app, ↓e_copy, ↓e_mv, ↓e_pick, ↓e_new, ↓e_nilc, ↓e_fld, ↓e_idxA, ↓e_bin, ↓e_eqb, ↓e_un, ↓e_conv, ↓e_strS, ↓e_s2b, ↓e_mkfn, ↓e_mksl, ↓e_slcA, ↓e_slcT, ↓e_call, ↓e_callp, ↓e_callv, ↓e_len, ↓e_lenA, ↓e_mx, ↓e_mn, ↓u_onInt, ↓u_onBool, ↓u_onOpt0, ↓u_onOpt1, ↓u_binV, ↓u_srcOf, ↓u_srcSl, ↓binI, ↓binS, ↓fillE, ↓evRes, evA, Opd.ev, Sx.get, put, putO, del, dels, frD, memD, pickD, kills, views, newer, rd, rm, upd, splice, SV.cells?, SV.one, retOf]
  repeat' (first | apply And.intro | intro)
  all_goals
    simp only [beq_iff_eq, beq_eq_false_iff_ne, ne_eq, pM] at *
    try (split <;> omega)

/-- the weight of an alarm -/
def wgt (s : Int) : Int := if s = 1 then 0 else if s = 2 then 3 else 1
def cnt (j a s l : Int) : Int := if s = j ∧ alarmB s l = true then (if a + wgt s < 100 then a + wgt s else 100) else a

theorem f33 (m t a b c d s l n : Int) (hs : Sc a b c d) :
    Fun Tryd.prog tS 33 [.ptr 0 0] [(0, ⟨.own 57, [I m, I t, I a, I b, I c, I d, I s, I l, I n]⟩)] 1 (.tup [])
      [(0, ⟨.own 57, [I m, I t, I (cnt 1 a s l), I (cnt 2 b s l), I (cnt 3 c s l), I (cnt 4 d s l), I s, I l, I n]⟩)] 1 := by
  refine fun_own (some 5) (callX tab2) (callX_ok tab2_ok) chk33 (show 1 ≤ 35 by decide) (fun _ => rfl) (fun _ => rfl) ?_
  unfold sf33
  obtain ⟨ha, hb, hc, hd⟩ := hs
  cases hal : alarmB s l with
  | false =>
    simp (config := { maxSteps := 1000000 }) only [cnt, Bool.false_eq_true, hal, tab2, ↓g23, SV.flatL, SV.flat, Bool.and_true, Bool.and_self, Bool.true_and, beq_self_eq_true, Int.reduceGE, Int.reduceGT, ↓u_callAnd, Blk.mk.injEq, List.cons.injEq, SV.int.injEq, SV.bool.injEq, SV.tup.injEq, SV.agg.injEq, and_self, undef, Int.reduceBNe, Int.reduceBEq, Nat.reduceBNe, Nat.reduceBEq, ↓u_callX, lookF, setv, finO_r, finO_n, finO_x, again_n, again_x, again_r, lookT, eqPat, eqTag, reduceCtorEq, Nat.reduceEqDiff, Nat.reduceAdd, Nat.reduceSub, Nat.reduceMul, Nat.reduceDiv, Nat.reduceLeDiff, Nat.reduceLT, Int.reduceToNat, Int.reduceLT, Int.reduceLE, Int.reduceAdd, Int.reduceSub, Int.reduceMul, Int.reduceNeg, Int.reduceEq, Int.reduceNe, wrap64, false_imp_iff, true_imp_iff, eq_self, decide_true, decide_false, Int.cast_ofNat_Int,  true_and, and_true, false_and, and_false, imp_self, implies_true, List.getElem?_cons_zero, List.getElem?_cons_succ, List.length_cons, List.length_nil, List.append_nil, List.nil_append, List.cons_append, List.take_succ_cons, List.take_zero, List.drop_succ_cons, List.drop_zero, List.take_nil, List.drop_nil, List.reverse_cons, List.reverse_nil, List.map_cons, List.map_nil, Nat.zero_add, Nat.add_zero, frOf, den_nil, den_o0, ↓gd_tt, ↓gd_ff, ↓gd_tf, ↓gd_ft, gd_any, den_o1, kont_app, den_g, setv, Bool.not_true, Bool.not_false, den_skip, den_reg, den_regD, den_regP, den_A, den_seq, den_cond, den_block, den_exit, den_ret, den_b, den_xb, den_xo, den_xc, den_xu, den_rb, den_ro, den_rc, den_ru, den_u, den_loopU, finP_r, finP_n, finP_x, ↓reduceIte, ↓e_box, ↓e_build, ↓e_bslice, ↓e_load, ↓e_store, ↓e_idxS, ↓e_idxV, ↓e_idxT, ↓e_fieldV, ↓e_eqv, ↓e_isNil, ↓e_b2s, ↓e_slcS, ↓e_arrAt, ↓e_ext, ↓e_app, ↓e_copy, ↓e_mv, ↓e_pick, ↓e_new, ↓e_nilc, ↓e_fld, ↓e_idxA, ↓e_bin, ↓e_eqb, ↓e_un, ↓e_conv, ↓e_strS, ↓e_s2b, ↓e_mkfn, ↓e_mksl, ↓e_slcA, ↓e_slcT, ↓e_call, ↓e_callp, ↓e_callv, ↓e_len, ↓e_lenA, ↓e_mx, ↓e_mn, ↓u_onInt, ↓u_onBool, ↓u_onOpt0, ↓u_onOpt1, ↓u_binV, ↓u_srcOf, ↓u_srcSl, ↓binI, ↓binS, ↓fillE, ↓evRes, evA, Opd.ev, Sx.get, put, putO, del, dels, frD, memD, pickD, kills, views, newer, rd, rm, upd, splice, SV.cells?, SV.one, retOf]
  | true =>
    have h4 : s = 1 ∨ s = 2 ∨ s = 3 ∨ s = 4 := by
      simp only [alarmB, decide_eq_true_eq] at hal; omega
    have wa : IntKind.i64.wrap (a + 0) = a := by rw [wrap64 (by omega) (by omega)]; omega
    have wb : IntKind.i64.wrap (b + 3) = b + 3 := wrap64 (by omega) (by omega)
    have wc : IntKind.i64.wrap (c + 1) = c + 1 := wrap64 (by omega) (by omega)
    have wd : IntKind.i64.wrap (d + 1) = d + 1 := wrap64 (by omega) (by omega)
    rcases h4 with rfl | rfl | rfl | rfl
    all_goals
      simp (config := { maxSteps := 1000000 }) only [wa, wb, wc, wd, tS, hal, tab2, ↓g23, SV.flatL, SV.flat, Bool.and_true, Bool.and_self, Bool.true_and, beq_self_eq_true, Int.reduceGE, Int.reduceGT, ↓u_callAnd, Blk.mk.injEq, List.cons.injEq, SV.int.injEq, SV.bool.injEq, SV.tup.injEq, SV.agg.injEq, and_self, undef, Int.reduceBNe, Int.reduceBEq, Nat.reduceBNe, Nat.reduceBEq, ↓u_callX, lookF, setv, finO_r, finO_n, finO_x, again_n, again_x, again_r, lookT, eqPat, eqTag, reduceCtorEq, Nat.reduceEqDiff, Nat.reduceAdd, Nat.reduceSub, Nat.reduceMul, Nat.reduceDiv, Nat.reduceLeDiff, Nat.reduceLT, Int.reduceToNat, Int.reduceLT, Int.reduceLE, Int.reduceAdd, Int.reduceSub, Int.reduceMul, Int.reduceNeg, Int.reduceEq, Int.reduceNe, wrap64, false_imp_iff, true_imp_iff, eq_self, decide_true, decide_false, Int.cast_ofNat_Int,  true_and, and_true, false_and, and_false, imp_self, implies_true, List.getElem?_cons_zero, List.getElem?_cons_succ, List.length_cons, List.length_nil, List.append_nil, List.nil_append, List.cons_append, List.take_succ_cons, List.take_zero, List.drop_succ_cons, List.drop_zero, List.take_nil, List.drop_nil, List.reverse_cons, List.reverse_nil, List.map_cons, List.map_nil, Nat.zero_add, Nat.add_zero, frOf, den_nil, den_o0, ↓gd_tt, ↓gd_ff, ↓gd_tf, ↓gd_ft, gd_any, den_o1, kont_app, den_g, setv, Bool.not_true, Bool.not_false, den_skip, den_reg, den_regD, den_regP, den_A, den_seq, den_cond, den_block, den_exit, den_ret, den_b, den_xb, den_xo, den_xc, den_xu, den_rb, den_ro, den_rc, den_ru, den_u, den_loopU, finP_r, finP_n, finP_x, ↓reduceIte, ↓e_box, ↓e_build, ↓e_bslice, ↓e_load, ↓e_store, ↓e_idxS, ↓e_idxV, ↓e_idxT, ↓e_fieldV, ↓e_eqv, ↓e_isNil, ↓e_b2s, ↓e_slcS, ↓e_arrAt, ↓e_ext, ↓e_app, ↓e_copy, ↓e_mv, ↓e_pick, ↓e_new, ↓e_nilc, ↓e_fld, ↓e_idxA, ↓e_bin, ↓e_eqb, ↓e_un, ↓e_conv, ↓e_strS, ↓e_s2b, ↓e_mkfn, ↓e_mksl, ↓e_slcA, ↓e_slcT, ↓e_call, ↓e_callp, ↓e_callv, ↓e_len, ↓e_lenA, ↓e_mx, ↓e_mn, ↓u_onInt, ↓u_onBool, ↓u_onOpt0, ↓u_onOpt1, ↓u_binV, ↓u_srcOf, ↓u_srcSl, ↓binI, ↓binS, ↓fillE, ↓evRes, evA, Opd.ev, Sx.get, put, putO, del, dels, frD, memD, pickD, kills, views, newer, rd, rm, upd, splice, SV.cells?, SV.one, retOf]
      simp [cnt, wgt, hal]
      try omega
end Go.Proofs.YtflkcganpgjkkaaDoor
