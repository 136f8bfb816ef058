/- The law TamperTimeAdds of layer 32: it computes true. -/
import Derived.Test.YtflkcganpgjkkaaDoorTamL
namespace Go.Proofs.YtflkcganpgjkkaaDoor
open Go Go.Sx Sf
set_option maxRecDepth 100000
set_option linter.unusedSimpArgs false
set_option linter.unusedVariables false

theorem dec_dec {a k j : Int} (hj : 0 ≤ j) : dec (dec a k) j = dec a (k + j) := by unfold dec; repeat' split <;> omega
theorem kk_add {t n l : Int} (h1 : t ≤ n) (h2 : n ≤ l) : kk t n + kk (t + 60 * kk t n) l = kk t l := by unfold kk; omega
theorem dec_nonneg {a k : Int} : 0 ≤ dec a k := by unfold dec; split <;> omega
theorem dec_anti {a k j : Int} (hj : 0 ≤ j) : dec a (k + j) ≤ dec a k := by unfold dec; repeat' split <;> omega
theorem pass_pass {s : St} {n l : Int} (h0 : 0 ≤ s.t) (h1 : s.t ≤ n) (h2 : n ≤ l) : (s.pass n).pass l = s.pass l := by
  obtain ⟨m, t, a, b, c, d⟩ := s
  simp only at h0 h1
  have hk := kk_add h1 h2
  have hj : 0 ≤ kk (t + 60 * kk t n) l := by unfold kk; omega
  simp only [St.pass]
  generalize kk (t + 60 * kk t n) l = j at *
  generalize kk t n = k at *
  generalize kk t l = r at *
  subst hk
  simp only [dec_dec hj]
  have e1 : pM (pM m a b c d k) (dec a k) (dec b k) (dec c k) (dec d k) j = pM m a b c d (k + j) := by
    unfold pM
    rw [dec_dec hj, dec_dec hj, dec_dec hj, dec_dec hj]
    have q1 := dec_nonneg (a := a) (k := k + j)
    have q2 := dec_nonneg (a := b) (k := k + j)
    have q3 := dec_nonneg (a := c) (k := k + j)
    have q4 := dec_nonneg (a := d) (k := k + j)
    have r1 := dec_anti (a := a) (k := k) hj
    have r2 := dec_anti (a := b) (k := k) hj
    have r3 := dec_anti (a := c) (k := k) hj
    have r4 := dec_anti (a := d) (k := k) hj
    repeat' split <;> omega
  rw [e1]
  congr 1
  omega
theorem err_of {s : St} {n : Int} (h1 : s.ok = true) (h2 : timeB n = true) (h3 : ¬ n < s.t) : err s n = 0 := by
  unfold err; rw [if_pos ⟨h1, h2⟩, if_neg h3]
theorem adds {s : St} {n l : Int} (h : err s n = 0) (h1 : ¬ l < n) (h2 : ¬ l > 1099511627776) : err (passS s n) l = 0 ∧ err s l = 0 ∧ passS (passS s n) l = passS s l := by
  have hok := passS_ok h
  obtain ⟨g1, g2, g3⟩ := err_ok h
  have ho := ok_iff.1 g1
  have hl : timeB l = true := by simp only [timeB, decide_eq_true_eq]; omega
  have e2 : err s l = 0 := err_of g1 hl (by omega)
  have e1 : err (passS s n) l = 0 := by
    refine err_of hok hl ?_
    unfold passS
    rw [if_pos h]
    split
    · have hT := time_Ti ho.2.1.1 g2 g3
      obtain ⟨k1, k2, k3⟩ := kk_range hT
      simp only [St.pass]; omega
    · omega
  refine ⟨e1, e2, ?_⟩
  have d1 : passS (passS s n) l = if (passS s n).m < 4 then (passS s n).pass l else passS s n := by
    rw [show passS (passS s n) l = _ from if_pos e1]
  have d2 : passS s l = if s.m < 4 then s.pass l else s := by rw [show passS s l = _ from if_pos e2]
  have d3 : passS s n = if s.m < 4 then s.pass n else s := by rw [show passS s n = _ from if_pos h]
  by_cases hm : s.m < 4
  · rw [if_pos hm] at d2 d3
    have hm' : (s.pass n).m < 4 := pM_lt hm
    rw [d1, d2, d3, if_pos hm', pass_pass ho.2.1.1 (by omega) (by omega)]
  · rw [if_neg hm] at d2 d3
    rw [d1, d2, d3, if_neg hm]

set_option maxHeartbeats 4000000 in
theorem f5 (s : St) (n l : Int) : Fun Tryd.prog tS 5 [s.sv, I n, I l] [] 0 (.bool true) [] 0 := by
  refine fun_pure (some 5) (callX tab8) (callX_ok tab8_ok) chk5 (show 3 ≤ 59 by decide) (fun _ => rfl) ?_
  unfold sf5
  have F := fun h h1 h2 => adds (s := s) (n := n) (l := l) h h1 h2
  obtain ⟨m, t, a, b, c, d⟩ := s
  generalize h1 : passS ⟨m, t, a, b, c, d⟩ n = p1 at *
  generalize h2 : err ⟨m, t, a, b, c, d⟩ n = e1 at *
  by_cases hc1 : e1 = 0
  · have hb1 : (e1 != 0) = false := by simp [hc1]
    by_cases hc2 : l < n
    · obtain ⟨m1, t1, a1, b1, c1, d1⟩ := p1
      simp (config := { maxSteps := 10000000 }) only [h1, h2, hb1, hc2, St.sv, tab8, tab7, tab5, tab4, tab2, ↓g9, ↓g20, SV.flatL, SV.flat, Bool.and_true, Bool.and_self, Bool.true_and, beq_self_eq_true, Int.reduceGE, Int.reduceGT, ↓u_callAnd, Blk.mk.injEq, List.cons.injEq, SV.int.injEq, SV.bool.injEq, SV.tup.injEq, SV.agg.injEq, and_self, undef, Int.reduceBNe, Int.reduceBEq, Nat.reduceBNe, Nat.reduceBEq, ↓u_callX, lookF, setv, finO_r, finO_n, finO_x, again_n, again_x, again_r, lookT, eqPat, eqTag, reduceCtorEq, Nat.reduceEqDiff, Nat.reduceAdd, Nat.reduceSub, Nat.reduceMul, Nat.reduceDiv, Nat.reduceLeDiff, Nat.reduceLT, Int.reduceToNat, Int.reduceLT, Int.reduceLE, Int.reduceAdd, Int.reduceSub, Int.reduceMul, Int.reduceNeg, Int.reduceEq, Int.reduceNe, wrap64, false_imp_iff, true_imp_iff, eq_self, decide_true, decide_false, Int.cast_ofNat_Int,  true_and, and_true, false_and, and_false, imp_self, implies_true, List.getElem?_cons_zero, List.getElem?_cons_succ, List.length_cons, List.length_nil, List.append_nil, List.nil_append, List.cons_append, List.take_succ_cons, List.take_zero, List.drop_succ_cons, List.drop_zero, List.take_nil, List.drop_nil, List.reverse_cons, List.reverse_nil, List.map_cons, List.map_nil, Nat.zero_add, Nat.add_zero, frOf, den_nil, den_o0, ↓gd_tt, ↓gd_ff, ↓gd_tf, ↓gd_ft, gd_any, den_o1, kont_app, den_g, setv, Bool.not_true, Bool.not_false, den_skip, den_reg, den_regD, den_regP, den_A, den_seq, den_cond, den_block, den_exit, den_ret, den_b, den_xb, den_xo, den_xc, den_xu, den_rb, den_ro, den_rc, den_ru, den_u, den_loopU, finP_r, finP_n, finP_x, ↓reduceIte, ↓e_box, ↓e_build, ↓e_bslice, ↓e_load, ↓e_store, ↓e_idxS, ↓e_idxV, ↓e_idxT, ↓e_fieldV, ↓e_eqv, ↓e_isNil, ↓e_b2s, ↓e_slcS, ↓e_arrAt, ↓e_ext, ↓e_app, ↓e_copy, ↓e_mv, ↓e_pick, ↓e_new, ↓e_nilc, ↓e_fld, ↓e_idxA, ↓e_bin, ↓e_eqb, ↓e_un, ↓e_conv, ↓e_strS, ↓e_s2b, ↓e_mkfn, ↓e_mksl, ↓e_slcA, ↓e_slcT, ↓e_call, ↓e_callp, ↓e_callv, ↓e_len, ↓e_lenA, ↓e_mx, ↓e_mn, ↓u_onInt, ↓u_onBool, ↓u_onOpt0, ↓u_onOpt1, ↓u_binV, ↓u_srcOf, ↓u_srcSl, ↓binI, ↓binS, ↓fillE, ↓evRes, evA, Opd.ev, Sx.get, put, putO, del, dels, frD, memD, pickD, kills, views, newer, rd, rm, upd, splice, SV.cells?, SV.one, retOf]
    · by_cases hc3 : l > 1099511627776
      · obtain ⟨m1, t1, a1, b1, c1, d1⟩ := p1
        simp (config := { maxSteps := 10000000 }) only [h1, h2, hb1, hc2, hc3, St.sv, tab8, tab7, tab5, tab4, tab2, ↓g9, ↓g20, SV.flatL, SV.flat, Bool.and_true, Bool.and_self, Bool.true_and, beq_self_eq_true, Int.reduceGE, Int.reduceGT, ↓u_callAnd, Blk.mk.injEq, List.cons.injEq, SV.int.injEq, SV.bool.injEq, SV.tup.injEq, SV.agg.injEq, and_self, undef, Int.reduceBNe, Int.reduceBEq, Nat.reduceBNe, Nat.reduceBEq, ↓u_callX, lookF, setv, finO_r, finO_n, finO_x, again_n, again_x, again_r, lookT, eqPat, eqTag, reduceCtorEq, Nat.reduceEqDiff, Nat.reduceAdd, Nat.reduceSub, Nat.reduceMul, Nat.reduceDiv, Nat.reduceLeDiff, Nat.reduceLT, Int.reduceToNat, Int.reduceLT, Int.reduceLE, Int.reduceAdd, Int.reduceSub, Int.reduceMul, Int.reduceNeg, Int.reduceEq, Int.reduceNe, wrap64, false_imp_iff, true_imp_iff, eq_self, decide_true, decide_false, Int.cast_ofNat_Int,  true_and, and_true, false_and, and_false, imp_self, implies_true, List.getElem?_cons_zero, List.getElem?_cons_succ, List.length_cons, List.length_nil, List.append_nil, List.nil_append, List.cons_append, List.take_succ_cons, List.take_zero, List.drop_succ_cons, List.drop_zero, List.take_nil, List.drop_nil, List.reverse_cons, List.reverse_nil, List.map_cons, List.map_nil, Nat.zero_add, Nat.add_zero, frOf, den_nil, den_o0, ↓gd_tt, ↓gd_ff, ↓gd_tf, ↓gd_ft, gd_any, den_o1, kont_app, den_g, setv, Bool.not_true, Bool.not_false, den_skip, den_reg, den_regD, den_regP, den_A, den_seq, den_cond, den_block, den_exit, den_ret, den_b, den_xb, den_xo, den_xc, den_xu, den_rb, den_ro, den_rc, den_ru, den_u, den_loopU, finP_r, finP_n, finP_x, ↓reduceIte, ↓e_box, ↓e_build, ↓e_bslice, ↓e_load, ↓e_store, ↓e_idxS, ↓e_idxV, ↓e_idxT, ↓e_fieldV, ↓e_eqv, ↓e_isNil, ↓e_b2s, ↓e_slcS, ↓e_arrAt, ↓e_ext, ↓e_app, ↓e_copy, ↓e_mv, ↓e_pick, ↓e_new, ↓e_nilc, ↓e_fld, ↓e_idxA, ↓e_bin, ↓e_eqb, ↓e_un, ↓e_conv, ↓e_strS, ↓e_s2b, ↓e_mkfn, ↓e_mksl, ↓e_slcA, ↓e_slcT, ↓e_call, ↓e_callp, ↓e_callv, ↓e_len, ↓e_lenA, ↓e_mx, ↓e_mn, ↓u_onInt, ↓u_onBool, ↓u_onOpt0, ↓u_onOpt1, ↓u_binV, ↓u_srcOf, ↓u_srcSl, ↓binI, ↓binS, ↓fillE, ↓evRes, evA, Opd.ev, Sx.get, put, putO, del, dels, frD, memD, pickD, kills, views, newer, rd, rm, upd, splice, SV.cells?, SV.one, retOf]
      · obtain ⟨F1, F2, F3⟩ := F hc1 hc2 hc3
        generalize h3 : passS p1 l = p2 at *
        generalize h4 : err p1 l = e2 at *
        generalize h5 : passS ⟨m, t, a, b, c, d⟩ l = p3 at *
        generalize h6 : err ⟨m, t, a, b, c, d⟩ l = e3 at *
        subst F1; subst F2; subst F3
        obtain ⟨m1, t1, a1, b1, c1, d1⟩ := p1
        obtain ⟨m2, t2, a2, b2, c2, d2⟩ := p2
        simp (config := { maxSteps := 10000000 }) only [h1, h2, h3, h4, h5, h6, hb1, hc2, hc3, St.sv, tab8, tab7, tab5, tab4, tab2, ↓g9, ↓g20, SV.flatL, SV.flat, Bool.and_true, Bool.and_self, Bool.true_and, beq_self_eq_true, Int.reduceGE, Int.reduceGT, ↓u_callAnd, Blk.mk.injEq, List.cons.injEq, SV.int.injEq, SV.bool.injEq, SV.tup.injEq, SV.agg.injEq, and_self, undef, Int.reduceBNe, Int.reduceBEq, Nat.reduceBNe, Nat.reduceBEq, ↓u_callX, lookF, setv, finO_r, finO_n, finO_x, again_n, again_x, again_r, lookT, eqPat, eqTag, reduceCtorEq, Nat.reduceEqDiff, Nat.reduceAdd, Nat.reduceSub, Nat.reduceMul, Nat.reduceDiv, Nat.reduceLeDiff, Nat.reduceLT, Int.reduceToNat, Int.reduceLT, Int.reduceLE, Int.reduceAdd, Int.reduceSub, Int.reduceMul, Int.reduceNeg, Int.reduceEq, Int.reduceNe, wrap64, false_imp_iff, true_imp_iff, eq_self, decide_true, decide_false, Int.cast_ofNat_Int,  true_and, and_true, false_and, and_false, imp_self, implies_true, List.getElem?_cons_zero, List.getElem?_cons_succ, List.length_cons, List.length_nil, List.append_nil, List.nil_append, List.cons_append, List.take_succ_cons, List.take_zero, List.drop_succ_cons, List.drop_zero, List.take_nil, List.drop_nil, List.reverse_cons, List.reverse_nil, List.map_cons, List.map_nil, Nat.zero_add, Nat.add_zero, frOf, den_nil, den_o0, ↓gd_tt, ↓gd_ff, ↓gd_tf, ↓gd_ft, gd_any, den_o1, kont_app, den_g, setv, Bool.not_true, Bool.not_false, den_skip, den_reg, den_regD, den_regP, den_A, den_seq, den_cond, den_block, den_exit, den_ret, den_b, den_xb, den_xo, den_xc, den_xu, den_rb, den_ro, den_rc, den_ru, den_u, den_loopU, finP_r, finP_n, finP_x, ↓reduceIte, ↓e_box, ↓e_build, ↓e_bslice, ↓e_load, ↓e_store, ↓e_idxS, ↓e_idxV, ↓e_idxT, ↓e_fieldV, ↓e_eqv, ↓e_isNil, ↓e_b2s, ↓e_slcS, ↓e_arrAt, ↓e_ext, ↓e_app, ↓e_copy, ↓e_mv, ↓e_pick, ↓e_new, ↓e_nilc, ↓e_fld, ↓e_idxA, ↓e_bin, ↓e_eqb, ↓e_un, ↓e_conv, ↓e_strS, ↓e_s2b, ↓e_mkfn, ↓e_mksl, ↓e_slcA, ↓e_slcT, ↓e_call, ↓e_callp, ↓e_callv, ↓e_len, ↓e_lenA, ↓e_mx, ↓e_mn, ↓u_onInt, ↓u_onBool, ↓u_onOpt0, ↓u_onOpt1, ↓u_binV, ↓u_srcOf, ↓u_srcSl, ↓binI, ↓binS, ↓fillE, ↓evRes, evA, Opd.ev, Sx.get, put, putO, del, dels, frD, memD, pickD, kills, views, newer, rd, rm, upd, splice, SV.cells?, SV.one, retOf]
  · have hb1 : (e1 != 0) = true := by simp [hc1]
    obtain ⟨m1, t1, a1, b1, c1, d1⟩ := p1
    simp (config := { maxSteps := 10000000 }) only [h1, h2, hb1, St.sv, tab8, tab7, tab5, tab4, tab2, ↓g9, ↓g20, SV.flatL, SV.flat, Bool.and_true, Bool.and_self, Bool.true_and, beq_self_eq_true, Int.reduceGE, Int.reduceGT, ↓u_callAnd, Blk.mk.injEq, List.cons.injEq, SV.int.injEq, SV.bool.injEq, SV.tup.injEq, SV.agg.injEq, and_self, undef, Int.reduceBNe, Int.reduceBEq, Nat.reduceBNe, Nat.reduceBEq, ↓u_callX, lookF, setv, finO_r, finO_n, finO_x, again_n, again_x, again_r, lookT, eqPat, eqTag, reduceCtorEq, Nat.reduceEqDiff, Nat.reduceAdd, Nat.reduceSub, Nat.reduceMul, Nat.reduceDiv, Nat.reduceLeDiff, Nat.reduceLT, Int.reduceToNat, Int.reduceLT, Int.reduceLE, Int.reduceAdd, Int.reduceSub, Int.reduceMul, Int.reduceNeg, Int.reduceEq, Int.reduceNe, wrap64, false_imp_iff, true_imp_iff, eq_self, decide_true, decide_false, Int.cast_ofNat_Int,  true_and, and_true, false_and, and_false, imp_self, implies_true, List.getElem?_cons_zero, List.getElem?_cons_succ, List.length_cons, List.length_nil, List.append_nil, List.nil_append, List.cons_append, List.take_succ_cons, List.take_zero, List.drop_succ_cons, List.drop_zero, List.take_nil, List.drop_nil, List.reverse_cons, List.reverse_nil, List.map_cons, List.map_nil, Nat.zero_add, Nat.add_zero, frOf, den_nil, den_o0, ↓gd_tt, ↓gd_ff, ↓gd_tf, ↓gd_ft, gd_any, den_o1, kont_app, den_g, setv, Bool.not_true, Bool.not_false, den_skip, den_reg, den_regD, den_regP, den_A, den_seq, den_cond, den_block, den_exit, den_ret, den_b, den_xb, den_xo, den_xc, den_xu, den_rb, den_ro, den_rc, den_ru, den_u, den_loopU, finP_r, finP_n, finP_x, ↓reduceIte, ↓e_box, ↓e_build, ↓e_bslice, ↓e_load, ↓e_store, ↓e_idxS, ↓e_idxV, ↓e_idxT, ↓e_fieldV, ↓e_eqv, ↓e_isNil, ↓e_b2s, ↓e_slcS, ↓e_arrAt, ↓e_ext, ↓e_app, ↓e_copy, ↓e_mv, ↓e_pick, ↓e_new, ↓e_nilc, ↓e_fld, ↓e_idxA, ↓e_bin, ↓e_eqb, ↓e_un, ↓e_conv, ↓e_strS, ↓e_s2b, ↓e_mkfn, ↓e_mksl, ↓e_slcA, ↓e_slcT, ↓e_call, ↓e_callp, ↓e_callv, ↓e_len, ↓e_lenA, ↓e_mx, ↓e_mn, ↓u_onInt, ↓u_onBool, ↓u_onOpt0, ↓u_onOpt1, ↓u_binV, ↓u_srcOf, ↓u_srcSl, ↓binI, ↓binS, ↓fillE, ↓evRes, evA, Opd.ev, Sx.get, put, putO, del, dels, frD, memD, pickD, kills, views, newer, rd, rm, upd, splice, SV.cells?, SV.one, retOf]
end Go.Proofs.YtflkcganpgjkkaaDoor
