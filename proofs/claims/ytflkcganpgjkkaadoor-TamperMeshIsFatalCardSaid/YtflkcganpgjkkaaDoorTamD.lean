/- What apply, Pass and Step of package tamper compute. -/
import Derived.Test.YtflkcganpgjkkaaDoorTamC
namespace Go.Proofs.YtflkcganpgjkkaaDoor
open Go Go.Sx Sf
set_option maxRecDepth 100000
set_option linter.unusedSimpArgs false
set_option linter.unusedVariables false

abbrev bnd (f : FuncId) : SV := .fn f [.ptr 0 0] []
abbrev ch (m t a b c d s l n : Int) : List SV := [I m, I t, I a, I b, I c, I d, I s, I l, I n]
theorem f31_over1 (m t a b c d s l n : Int) (hv : validB m t a b c d = true) (hn : timeB n = true) (h : ¬ n < t) (hk : knownB s = true) (hm : ¬ m < 4) :
    Fun Tryd.prog tS 31 [.ptr 0 0, .slc 1 0 1 1 (some 1)] [(0, ⟨.own 57, ch m t a b c d s l n⟩), (1, ⟨.view, [bnd 32]⟩)] 2 (.tup [.agg [I m, I t, I a, I b, I c, I d], I 0]) [] 2 := by
  refine fun_val (some 5) (callX tab3) (callX_ok tab3_ok) chk31 (show 2 ≤ 63 by decide) (fun _ => rfl) ?_
  unfold sf31
  simp (config := { maxSteps := 1000000 }) only [ch, hv, hn, h, hk, hm, tab3, tab2, ↓g18, ↓g30, ↓g35, SV.flatL, SV.flat, Bool.and_true, Bool.and_self, Bool.true_and, beq_self_eq_true, Int.reduceGE, Int.reduceGT, ↓u_callAnd, Blk.mk.injEq, List.cons.injEq, SV.int.injEq, SV.bool.injEq, SV.tup.injEq, SV.agg.injEq, and_self, undef, Int.reduceBNe, Int.reduceBEq, Nat.reduceBNe, Nat.reduceBEq, ↓u_callX, lookF, setv, finO_r, finO_n, finO_x, again_n, again_x, again_r, lookT, eqPat, eqTag, reduceCtorEq, Nat.reduceEqDiff, Nat.reduceAdd, Nat.reduceSub, Nat.reduceMul, Nat.reduceDiv, Nat.reduceLeDiff, Nat.reduceLT, Int.reduceToNat, Int.reduceLT, Int.reduceLE, Int.reduceAdd, Int.reduceSub, Int.reduceMul, Int.reduceNeg, Int.reduceEq, Int.reduceNe, wrap64, false_imp_iff, true_imp_iff, eq_self, decide_true, decide_false, Int.cast_ofNat_Int,  true_and, and_true, false_and, and_false, imp_self, implies_true, List.getElem?_cons_zero, List.getElem?_cons_succ, List.length_cons, List.length_nil, List.append_nil, List.nil_append, List.cons_append, List.take_succ_cons, List.take_zero, List.drop_succ_cons, List.drop_zero, List.take_nil, List.drop_nil, List.reverse_cons, List.reverse_nil, List.map_cons, List.map_nil, Nat.zero_add, Nat.add_zero, frOf, den_nil, den_o0, ↓gd_tt, ↓gd_ff, ↓gd_tf, ↓gd_ft, gd_any, den_o1, kont_app, den_g, setv, Bool.not_true, Bool.not_false, den_skip, den_reg, den_regD, den_regP, den_A, den_seq, den_cond, den_block, den_exit, den_ret, den_b, den_xb, den_xo, den_xc, den_xu, den_rb, den_ro, den_rc, den_ru, den_u, den_loopU, finP_r, finP_n, finP_x, ↓reduceIte, ↓e_box, ↓e_build, ↓e_bslice, ↓e_load, ↓e_store, ↓e_idxS, ↓e_idxV, ↓e_idxT, ↓e_fieldV, ↓e_eqv, ↓e_isNil, ↓e_b2s, ↓e_slcS, ↓e_arrAt, ↓e_ext, ↓e_app, ↓e_copy, ↓e_mv, ↓e_pick, ↓e_new, ↓e_nilc, ↓e_fld, ↓e_idxA, ↓e_bin, ↓e_eqb, ↓e_un, ↓e_conv, ↓e_strS, ↓e_s2b, ↓e_mkfn, ↓e_mksl, ↓e_slcA, ↓e_slcT, ↓e_call, ↓e_callp, ↓e_callv, ↓e_len, ↓e_lenA, ↓e_mx, ↓e_mn, ↓u_onInt, ↓u_onBool, ↓u_onOpt0, ↓u_onOpt1, ↓u_binV, ↓u_srcOf, ↓u_srcSl, ↓binI, ↓binS, ↓fillE, ↓evRes, evA, Opd.ev, Sx.get, put, putO, del, dels, frD, memD, pickD, kills, views, newer, rd, rm, upd, splice, SV.cells?, SV.one, retOf]
theorem f31_over3 (m t a b c d s l n : Int) (hv : validB m t a b c d = true) (hn : timeB n = true) (h : ¬ n < t) (hk : knownB s = true) (hm : ¬ m < 4) :
    Fun Tryd.prog tS 31 [.ptr 0 0, .slc 1 0 1 3 (some 3)] [(0, ⟨.own 57, ch m t a b c d s l n⟩), (1, ⟨.view, [bnd 32, bnd 33, bnd 34]⟩)] 2 (.tup [.agg [I m, I t, I a, I b, I c, I d], I 0]) [] 2 := by
  refine fun_val (some 5) (callX tab3) (callX_ok tab3_ok) chk31 (show 2 ≤ 63 by decide) (fun _ => rfl) ?_
  unfold sf31
  simp (config := { maxSteps := 1000000 }) only [ch, hv, hn, h, hk, hm, tab3, tab2, ↓g18, ↓g30, ↓g35, SV.flatL, SV.flat, Bool.and_true, Bool.and_self, Bool.true_and, beq_self_eq_true, Int.reduceGE, Int.reduceGT, ↓u_callAnd, Blk.mk.injEq, List.cons.injEq, SV.int.injEq, SV.bool.injEq, SV.tup.injEq, SV.agg.injEq, and_self, undef, Int.reduceBNe, Int.reduceBEq, Nat.reduceBNe, Nat.reduceBEq, ↓u_callX, lookF, setv, finO_r, finO_n, finO_x, again_n, again_x, again_r, lookT, eqPat, eqTag, reduceCtorEq, Nat.reduceEqDiff, Nat.reduceAdd, Nat.reduceSub, Nat.reduceMul, Nat.reduceDiv, Nat.reduceLeDiff, Nat.reduceLT, Int.reduceToNat, Int.reduceLT, Int.reduceLE, Int.reduceAdd, Int.reduceSub, Int.reduceMul, Int.reduceNeg, Int.reduceEq, Int.reduceNe, wrap64, false_imp_iff, true_imp_iff, eq_self, decide_true, decide_false, Int.cast_ofNat_Int,  true_and, and_true, false_and, and_false, imp_self, implies_true, List.getElem?_cons_zero, List.getElem?_cons_succ, List.length_cons, List.length_nil, List.append_nil, List.nil_append, List.cons_append, List.take_succ_cons, List.take_zero, List.drop_succ_cons, List.drop_zero, List.take_nil, List.drop_nil, List.reverse_cons, List.reverse_nil, List.map_cons, List.map_nil, Nat.zero_add, Nat.add_zero, frOf, den_nil, den_o0, ↓gd_tt, ↓gd_ff, ↓gd_tf, ↓gd_ft, gd_any, den_o1, kont_app, den_g, setv, Bool.not_true, Bool.not_false, den_skip, den_reg, den_regD, den_regP, den_A, den_seq, den_cond, den_block, den_exit, den_ret, den_b, den_xb, den_xo, den_xc, den_xu, den_rb, den_ro, den_rc, den_ru, den_u, den_loopU, finP_r, finP_n, finP_x, ↓reduceIte, ↓e_box, ↓e_build, ↓e_bslice, ↓e_load, ↓e_store, ↓e_idxS, ↓e_idxV, ↓e_idxT, ↓e_fieldV, ↓e_eqv, ↓e_isNil, ↓e_b2s, ↓e_slcS, ↓e_arrAt, ↓e_ext, ↓e_app, ↓e_copy, ↓e_mv, ↓e_pick, ↓e_new, ↓e_nilc, ↓e_fld, ↓e_idxA, ↓e_bin, ↓e_eqb, ↓e_un, ↓e_conv, ↓e_strS, ↓e_s2b, ↓e_mkfn, ↓e_mksl, ↓e_slcA, ↓e_slcT, ↓e_call, ↓e_callp, ↓e_callv, ↓e_len, ↓e_lenA, ↓e_mx, ↓e_mn, ↓u_onInt, ↓u_onBool, ↓u_onOpt0, ↓u_onOpt1, ↓u_binV, ↓u_srcOf, ↓u_srcSl, ↓binI, ↓binS, ↓fillE, ↓evRes, evA, Opd.ev, Sx.get, put, putO, del, dels, frD, memD, pickD, kills, views, newer, rd, rm, upd, splice, SV.cells?, SV.one, retOf]
theorem valid_Sc {m t a b c d : Int} (hv : validB m t a b c d = true) : Sc a b c d ∧ 0 ≤ t ∧ t ≤ 1099511627776 ∧ 1 ≤ m ∧ m ≤ 5 := by
  simp only [validB, decide_eq_true_eq] at hv
  unfold Sc; omega
theorem time_Ti {t n : Int} (ht : 0 ≤ t) (hn : timeB n = true) (h : ¬ n < t) : Ti t n := by
  simp only [timeB, decide_eq_true_eq] at hn
  unfold Ti; omega
theorem pM_lt {m a b c d k : Int} (h : m < 4) : pM m a b c d k < 4 := by unfold pM; split <;> omega
theorem dec_Sc {a b c d k : Int} (h : Sc a b c d) (hk : 0 ≤ k) : Sc (dec a k) (dec b k) (dec c k) (dec d k) :=
  ⟨dec_range h.1 hk, dec_range h.2.1 hk, dec_range h.2.2.1 hk, dec_range h.2.2.2 hk⟩
theorem f31_run1 (m t a b c d s l n : Int) (hv : validB m t a b c d = true) (hn : timeB n = true) (h : ¬ n < t) (hk : knownB s = true) (hm : m < 4) :
    Fun Tryd.prog tS 31 [.ptr 0 0, .slc 1 0 1 1 (some 1)] [(0, ⟨.own 57, ch m t a b c d s l n⟩), (1, ⟨.view, [bnd 32]⟩)] 2
      (.tup [.agg [I (pM m a b c d (kk t n)), I (t + 60 * kk t n), I (dec a (kk t n)), I (dec b (kk t n)), I (dec c (kk t n)), I (dec d (kk t n))], I 0]) [] 2 := by
  refine fun_val (some 5) (callX tab3) (callX_ok tab3_ok) chk31 (show 2 ≤ 63 by decide) (fun _ => rfl) ?_
  unfold sf31
  obtain ⟨hs, ht, _⟩ := valid_Sc hv
  have hT := time_Ti ht hn h
  have h1 := scB_iff.2 hs
  have h2 := tiB_iff.2 hT
  simp (config := { maxSteps := 1000000 }) only [ch, hv, hn, h, hk, hm, h1, h2, Bool.and_true, ↓g32, tab3, tab2, ↓g18, ↓g30, ↓g35, SV.flatL, SV.flat, Bool.and_true, Bool.and_self, Bool.true_and, beq_self_eq_true, Int.reduceGE, Int.reduceGT, ↓u_callAnd, Blk.mk.injEq, List.cons.injEq, SV.int.injEq, SV.bool.injEq, SV.tup.injEq, SV.agg.injEq, and_self, undef, Int.reduceBNe, Int.reduceBEq, Nat.reduceBNe, Nat.reduceBEq, ↓u_callX, lookF, setv, finO_r, finO_n, finO_x, again_n, again_x, again_r, lookT, eqPat, eqTag, reduceCtorEq, Nat.reduceEqDiff, Nat.reduceAdd, Nat.reduceSub, Nat.reduceMul, Nat.reduceDiv, Nat.reduceLeDiff, Nat.reduceLT, Int.reduceToNat, Int.reduceLT, Int.reduceLE, Int.reduceAdd, Int.reduceSub, Int.reduceMul, Int.reduceNeg, Int.reduceEq, Int.reduceNe, wrap64, false_imp_iff, true_imp_iff, eq_self, decide_true, decide_false, Int.cast_ofNat_Int,  true_and, and_true, false_and, and_false, imp_self, implies_true, List.getElem?_cons_zero, List.getElem?_cons_succ, List.length_cons, List.length_nil, List.append_nil, List.nil_append, List.cons_append, List.take_succ_cons, List.take_zero, List.drop_succ_cons, List.drop_zero, List.take_nil, List.drop_nil, List.reverse_cons, List.reverse_nil, List.map_cons, List.map_nil, Nat.zero_add, Nat.add_zero, frOf, den_nil, den_o0, ↓gd_tt, ↓gd_ff, ↓gd_tf, ↓gd_ft, gd_any, den_o1, kont_app, den_g, setv, Bool.not_true, Bool.not_false, den_skip, den_reg, den_regD, den_regP, den_A, den_seq, den_cond, den_block, den_exit, den_ret, den_b, den_xb, den_xo, den_xc, den_xu, den_rb, den_ro, den_rc, den_ru, den_u, den_loopU, finP_r, finP_n, finP_x, ↓reduceIte, ↓e_box, ↓e_build, ↓e_bslice, ↓e_load, ↓e_store, ↓e_idxS, ↓e_idxV, ↓e_idxT, ↓e_fieldV, ↓e_eqv, ↓e_isNil, ↓e_b2s, ↓e_slcS, ↓e_arrAt, ↓e_ext, ↓e_app, ↓e_copy, ↓e_mv, ↓e_pick, ↓e_new, ↓e_nilc, ↓e_fld, ↓e_idxA, ↓e_bin, ↓e_eqb, ↓e_un, ↓e_conv, ↓e_strS, ↓e_s2b, ↓e_mkfn, ↓e_mksl, ↓e_slcA, ↓e_slcT, ↓e_call, ↓e_callp, ↓e_callv, ↓e_len, ↓e_lenA, ↓e_mx, ↓e_mn, ↓u_onInt, ↓u_onBool, ↓u_onOpt0, ↓u_onOpt1, ↓u_binV, ↓u_srcOf, ↓u_srcSl, ↓binI, ↓binS, ↓fillE, ↓evRes, evA, Opd.ev, Sx.get, put, putO, del, dels, frD, memD, pickD, kills, views, newer, rd, rm, upd, splice, SV.cells?, SV.one, retOf]

theorem cnt_Sc {a b c d s l : Int} (h : Sc a b c d) : Sc (cnt 1 a s l) (cnt 2 b s l) (cnt 3 c s l) (cnt 4 d s l) := by
  obtain ⟨h1, h2, h3, h4⟩ := h
  have key : ∀ j x, 0 ≤ x ∧ x ≤ 100 → 0 ≤ cnt j x s l ∧ cnt j x s l ≤ 100 := by
    intro j x hx
    unfold cnt wgt
    repeat' split
    all_goals omega
  exact ⟨key _ _ h1, key _ _ h2, key _ _ h3, key _ _ h4⟩
theorem f31_run3 (m t a b c d s l n : Int) (hv : validB m t a b c d = true) (hn : timeB n = true) (h : ¬ n < t) (hk : knownB s = true) (hm : m < 4)
    (k a' b' c' d' : Int) (ek : k = kk t n) (ea : a' = cnt 1 (dec a k) s l) (eb : b' = cnt 2 (dec b k) s l) (ec : c' = cnt 3 (dec c k) s l) (ed : d' = cnt 4 (dec d k) s l) :
    Fun Tryd.prog tS 31 [.ptr 0 0, .slc 1 0 1 3 (some 3)] [(0, ⟨.own 57, ch m t a b c d s l n⟩), (1, ⟨.view, [bnd 32, bnd 33, bnd 34]⟩)] 2
      (.tup [.agg [I (esc (pM m a b c d k) (a' + b' + c' + d') s l), I (t + 60 * k), I a', I b', I c', I d'], I 0]) [] 2 := by
  refine fun_val (some 5) (callX tab3) (callX_ok tab3_ok) chk31 (show 2 ≤ 63 by decide) (fun _ => rfl) ?_
  unfold sf31
  obtain ⟨hs, ht, _⟩ := valid_Sc hv
  have hT := time_Ti ht hn h
  have h1 := scB_iff.2 hs
  have h2 := tiB_iff.2 hT
  have hS1 := dec_Sc hs (kk_range hT).1
  have h3 := scB_iff.2 hS1
  have h4 := scB_iff.2 (cnt_Sc (s := s) (l := l) hS1)
  rw [← ek] at h3 h4
  rw [← ea, ← eb, ← ec, ← ed] at h4
  have h5 : pM m a b c d k < 4 := pM_lt hm
  simp (config := { maxSteps := 1000000 }) only [ch, hv, hn, h, hk, hm, h1, h2, h3, h4, h5, ← ek, ← ea, ← eb, ← ec, ← ed, Bool.and_true, ↓g32, ↓g33, ↓g34, tab3, tab2, ↓g18, ↓g30, ↓g35, SV.flatL, SV.flat, Bool.and_true, Bool.and_self, Bool.true_and, beq_self_eq_true, Int.reduceGE, Int.reduceGT, ↓u_callAnd, Blk.mk.injEq, List.cons.injEq, SV.int.injEq, SV.bool.injEq, SV.tup.injEq, SV.agg.injEq, and_self, undef, Int.reduceBNe, Int.reduceBEq, Nat.reduceBNe, Nat.reduceBEq, ↓u_callX, lookF, setv, finO_r, finO_n, finO_x, again_n, again_x, again_r, lookT, eqPat, eqTag, reduceCtorEq, Nat.reduceEqDiff, Nat.reduceAdd, Nat.reduceSub, Nat.reduceMul, Nat.reduceDiv, Nat.reduceLeDiff, Nat.reduceLT, Int.reduceToNat, Int.reduceLT, Int.reduceLE, Int.reduceAdd, Int.reduceSub, Int.reduceMul, Int.reduceNeg, Int.reduceEq, Int.reduceNe, wrap64, false_imp_iff, true_imp_iff, eq_self, decide_true, decide_false, Int.cast_ofNat_Int,  true_and, and_true, false_and, and_false, imp_self, implies_true, List.getElem?_cons_zero, List.getElem?_cons_succ, List.length_cons, List.length_nil, List.append_nil, List.nil_append, List.cons_append, List.take_succ_cons, List.take_zero, List.drop_succ_cons, List.drop_zero, List.take_nil, List.drop_nil, List.reverse_cons, List.reverse_nil, List.map_cons, List.map_nil, Nat.zero_add, Nat.add_zero, frOf, den_nil, den_o0, ↓gd_tt, ↓gd_ff, ↓gd_tf, ↓gd_ft, gd_any, den_o1, kont_app, den_g, setv, Bool.not_true, Bool.not_false, den_skip, den_reg, den_regD, den_regP, den_A, den_seq, den_cond, den_block, den_exit, den_ret, den_b, den_xb, den_xo, den_xc, den_xu, den_rb, den_ro, den_rc, den_ru, den_u, den_loopU, finP_r, finP_n, finP_x, ↓reduceIte, ↓e_box, ↓e_build, ↓e_bslice, ↓e_load, ↓e_store, ↓e_idxS, ↓e_idxV, ↓e_idxT, ↓e_fieldV, ↓e_eqv, ↓e_isNil, ↓e_b2s, ↓e_slcS, ↓e_arrAt, ↓e_ext, ↓e_app, ↓e_copy, ↓e_mv, ↓e_pick, ↓e_new, ↓e_nilc, ↓e_fld, ↓e_idxA, ↓e_bin, ↓e_eqb, ↓e_un, ↓e_conv, ↓e_strS, ↓e_s2b, ↓e_mkfn, ↓e_mksl, ↓e_slcA, ↓e_slcT, ↓e_call, ↓e_callp, ↓e_callv, ↓e_len, ↓e_lenA, ↓e_mx, ↓e_mn, ↓u_onInt, ↓u_onBool, ↓u_onOpt0, ↓u_onOpt1, ↓u_binV, ↓u_srcOf, ↓u_srcSl, ↓binI, ↓binS, ↓fillE, ↓evRes, evA, Opd.ev, Sx.get, put, putO, del, dels, frD, memD, pickD, kills, views, newer, rd, rm, upd, splice, SV.cells?, SV.one, retOf]

end Go.Proofs.YtflkcganpgjkkaaDoor
