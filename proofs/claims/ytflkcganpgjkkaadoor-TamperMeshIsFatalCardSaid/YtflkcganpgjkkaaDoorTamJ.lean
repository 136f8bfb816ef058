/- The laws of layer 32 of the program, as far as they do not loop: each computes true. -/
import Derived.Test.YtflkcganpgjkkaaDoorTamI
namespace Go.Proofs.YtflkcganpgjkkaaDoor
open Go Go.Sx Sf
set_option maxRecDepth 100000
set_option linter.unusedSimpArgs false
set_option linter.unusedVariables false

def g9 : List SV → Option SV
  | [] => some (.bool true)
  | _ => none
def tab8 : Tab := ⟨(9, g9) :: tab7.p, []⟩
theorem tab8_ok : TabX Tryd.prog tS tab8 := by
  refine ⟨fun x h => ?_, fun x h => by simp [tab8] at h⟩
  simp only [tab8, List.mem_cons] at h
  rcases h with rfl | h
  · intro args r hr
    simp only [g9] at hr
    split at hr <;> cases hr
    exact ⟨f9, fun _ => rfl, fun _ => rfl⟩
  · exact tab7_ok.p x h

theorem f8 (q c : Int) (hq : 0 ≤ q ∧ q < 256) : Fun Tryd.prog tS 8 [.int .u8 q, I c] [] 0 (.bool true) [] 0 := by
  refine fun_pure (some 5) (callX tab8) (callX_ok tab8_ok) chk8 (show 2 ≤ 54 by decide) (fun _ => rfl) ?_
  unfold sf8
  have w1 : IntKind.i64.wrap q = q := wrap64 (by omega) (by omega)
  have w2 : q.tmod 4 = q % 4 := Int.tmod_eq_emod_of_nonneg hq.1
  have w3 : IntKind.i64.wrap (1 + q % 4) = 1 + q % 4 := wrap64 (by omega) (by omega)
  have w4 : IntKind.i64.wrap (1 + q % 4 + 1) = 1 + q % 4 + 1 := wrap64 (by omega) (by omega)
  obtain ⟨m, hm⟩ : ∃ m, m = 1 + q % 4 := ⟨_, rfl⟩
  have hm1 : 1 ≤ m ∧ m ≤ 4 := by omega
  rw [← hm] at w3 w4
  simp (config := { maxSteps := 10000000 }) only [w1, w2, ← hm, w3, w4, tab8, tab7, ↓g9, ↓gP, SV.flatL, SV.flat, Bool.and_true, Bool.and_self, Bool.true_and, beq_self_eq_true, Int.reduceGE, Int.reduceGT, ↓u_callAnd, Blk.mk.injEq, List.cons.injEq, SV.int.injEq, SV.bool.injEq, SV.tup.injEq, SV.agg.injEq, and_self, undef, Int.reduceBNe, Int.reduceBEq, Nat.reduceBNe, Nat.reduceBEq, ↓u_callX, lookF, setv, finO_r, finO_n, finO_x, again_n, again_x, again_r, lookT, eqPat, eqTag, reduceCtorEq, Nat.reduceEqDiff, Nat.reduceAdd, Nat.reduceSub, Nat.reduceMul, Nat.reduceDiv, Nat.reduceLeDiff, Nat.reduceLT, Int.reduceToNat, Int.reduceLT, Int.reduceLE, Int.reduceAdd, Int.reduceSub, Int.reduceMul, Int.reduceNeg, Int.reduceEq, Int.reduceNe, wrap64, false_imp_iff, true_imp_iff, eq_self, decide_true, decide_false, Int.cast_ofNat_Int,  true_and, and_true, false_and, and_false, imp_self, implies_true, List.getElem?_cons_zero, List.getElem?_cons_succ, List.length_cons, List.length_nil, List.append_nil, List.nil_append, List.cons_append, List.take_succ_cons, List.take_zero, List.drop_succ_cons, List.drop_zero, List.take_nil, List.drop_nil, List.reverse_cons, List.reverse_nil, List.map_cons, List.map_nil, Nat.zero_add, Nat.add_zero, frOf, den_nil, den_o0, ↓gd_tt, ↓gd_ff, ↓gd_tf, ↓gd_ft, gd_any, den_o1, kont_app, den_g, setv, Bool.not_true, Bool.not_false, den_skip, den_reg, den_regD, den_regP, den_A, den_seq, den_cond, den_block, den_exit, den_ret, den_b, den_xb, den_xo, den_xc, den_xu, den_rb, den_ro, den_rc, den_ru, den_u, den_loopU, finP_r, finP_n, finP_x, ↓reduceIte, ↓e_box, ↓e_build, ↓e_bslice, ↓e_load, ↓e_store, ↓e_idxS, ↓e_idxV, ↓e_idxT, ↓e_fieldV, ↓e_eqv, ↓e_isNil, ↓e_b2s, ↓e_slcS, ↓e_arrAt, ↓e_ext, ↓e_app, ↓e_copy, ↓e_mv, ↓e_pick, ↓e_new, ↓e_nilc, ↓e_fld, ↓e_idxA, ↓e_bin, ↓e_eqb, ↓e_un, ↓e_conv, ↓e_strS, ↓e_s2b, ↓e_mkfn, ↓e_mksl, ↓e_slcA, ↓e_slcT, ↓e_call, ↓e_callp, ↓e_callv, ↓e_len, ↓e_lenA, ↓e_mx, ↓e_mn, ↓u_onInt, ↓u_onBool, ↓u_onOpt0, ↓u_onOpt1, ↓u_binV, ↓u_srcOf, ↓u_srcSl, ↓binI, ↓binS, ↓fillE, ↓evRes, evA, Opd.ev, Sx.get, put, putO, del, dels, frD, memD, pickD, kills, views, newer, rd, rm, upd, splice, SV.cells?, SV.one, retOf]
  repeat' (first | apply And.intro | intro)
  all_goals
    simp only [beq_iff_eq, bne_iff_ne, bne_eq_false_iff_eq, beq_eq_false_iff_ne, ne_eq, decide_eq_true_eq, decide_eq_false_iff_not, permI, moves, safe, Bool.not_eq_true', Bool.not_eq_false'] at *
    try (repeat' split at *) <;> first | omega | trivial
theorem f3 (s : St) (n x y : Int) : Fun Tryd.prog tS 3 [s.sv, I n, .agg [I x, I y]] [] 0 (.bool true) [] 0 := by
  refine fun_pure (some 5) (callX tab8) (callX_ok tab8_ok) chk3 (show 3 ≤ 97 by decide) (fun _ => rfl) ?_
  unfold sf3
  obtain ⟨m, t, a, b, c, d⟩ := s
  generalize h1 : unlS ⟨m, t, a, b, c, d⟩ n = p1
  generalize h2 : unlE ⟨m, t, a, b, c, d⟩ n = e1
  generalize h3 : endS ⟨m, t, a, b, c, d⟩ 4 = p2
  generalize h4 : endS ⟨m, t, a, b, c, d⟩ 5 = p3
  generalize h5 : endE ⟨m, t, a, b, c, d⟩ = e2
  generalize h6 : permI x y = e3
  obtain ⟨m1, t1, a1, b1, c1, d1⟩ := p1
  obtain ⟨m2, t2, a2, b2, c2, d2⟩ := p2
  obtain ⟨m3, t3, a3, b3, c3, d3⟩ := p3
  simp (config := { maxSteps := 10000000 }) only [h1, h2, h3, h4, h5, h6, St.sv, tab8, tab7, ↓g9, ↓g10, ↓gE, ↓gP, beq_self_eq_true, Bool.and_self, SV.flatL, SV.flat, Bool.and_true, Bool.and_self, Bool.true_and, beq_self_eq_true, Int.reduceGE, Int.reduceGT, ↓u_callAnd, Blk.mk.injEq, List.cons.injEq, SV.int.injEq, SV.bool.injEq, SV.tup.injEq, SV.agg.injEq, and_self, undef, Int.reduceBNe, Int.reduceBEq, Nat.reduceBNe, Nat.reduceBEq, ↓u_callX, lookF, setv, finO_r, finO_n, finO_x, again_n, again_x, again_r, lookT, eqPat, eqTag, reduceCtorEq, Nat.reduceEqDiff, Nat.reduceAdd, Nat.reduceSub, Nat.reduceMul, Nat.reduceDiv, Nat.reduceLeDiff, Nat.reduceLT, Int.reduceToNat, Int.reduceLT, Int.reduceLE, Int.reduceAdd, Int.reduceSub, Int.reduceMul, Int.reduceNeg, Int.reduceEq, Int.reduceNe, wrap64, false_imp_iff, true_imp_iff, eq_self, decide_true, decide_false, Int.cast_ofNat_Int,  true_and, and_true, false_and, and_false, imp_self, implies_true, List.getElem?_cons_zero, List.getElem?_cons_succ, List.length_cons, List.length_nil, List.append_nil, List.nil_append, List.cons_append, List.take_succ_cons, List.take_zero, List.drop_succ_cons, List.drop_zero, List.take_nil, List.drop_nil, List.reverse_cons, List.reverse_nil, List.map_cons, List.map_nil, Nat.zero_add, Nat.add_zero, frOf, den_nil, den_o0, ↓gd_tt, ↓gd_ff, ↓gd_tf, ↓gd_ft, gd_any, den_o1, kont_app, den_g, setv, Bool.not_true, Bool.not_false, den_skip, den_reg, den_regD, den_regP, den_A, den_seq, den_cond, den_block, den_exit, den_ret, den_b, den_xb, den_xo, den_xc, den_xu, den_rb, den_ro, den_rc, den_ru, den_u, den_loopU, finP_r, finP_n, finP_x, ↓reduceIte, ↓e_box, ↓e_build, ↓e_bslice, ↓e_load, ↓e_store, ↓e_idxS, ↓e_idxV, ↓e_idxT, ↓e_fieldV, ↓e_eqv, ↓e_isNil, ↓e_b2s, ↓e_slcS, ↓e_arrAt, ↓e_ext, ↓e_app, ↓e_copy, ↓e_mv, ↓e_pick, ↓e_new, ↓e_nilc, ↓e_fld, ↓e_idxA, ↓e_bin, ↓e_eqb, ↓e_un, ↓e_conv, ↓e_strS, ↓e_s2b, ↓e_mkfn, ↓e_mksl, ↓e_slcA, ↓e_slcT, ↓e_call, ↓e_callp, ↓e_callv, ↓e_len, ↓e_lenA, ↓e_mx, ↓e_mn, ↓u_onInt, ↓u_onBool, ↓u_onOpt0, ↓u_onOpt1, ↓u_binV, ↓u_srcOf, ↓u_srcSl, ↓binI, ↓binS, ↓fillE, ↓evRes, evA, Opd.ev, Sx.get, put, putO, del, dels, frD, memD, pickD, kills, views, newer, rd, rm, upd, splice, SV.cells?, SV.one, retOf]
end Go.Proofs.YtflkcganpgjkkaaDoor
