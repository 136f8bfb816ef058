/- What Pass and Step of package tamper compute. -/
import Derived.Test.YtflkcganpgjkkaaDoorTamD
namespace Go.Proofs.YtflkcganpgjkkaaDoor
open Go Go.Sx Sf
set_option maxRecDepth 100000
set_option linter.unusedSimpArgs false
set_option linter.unusedVariables false

abbrev st6 (m t a b c d : Int) : SV := .agg [I m, I t, I a, I b, I c, I d]
theorem f20_of {m t a b c d n x0 x1 x2 x3 x4 x5 e : Int}
    (h31 : Fun Tryd.prog tS 31 [.ptr 0 0, .slc 1 0 1 1 (some 1)] [(0, ⟨.own 57, ch m t a b c d 1 0 n⟩), (1, ⟨.view, [bnd 32]⟩)] 2 (.tup [st6 x0 x1 x2 x3 x4 x5, I e]) [] 2) :
    Fun Tryd.prog tS 20 [st6 m t a b c d, I n] [] 0 (.tup [st6 x0 x1 x2 x3 x4 x5, I e]) [] 0 := by
  refine fun_pure (some 5) (callAnd 31 (callT Tryd.prog tS) (callX tab3)) (callAnd_ok (callX_ok tab3_ok)) chk20 (show 2 ≤ 19 by decide) (fun _ => rfl) ?_
  unfold sf20
  simp (config := { maxSteps := 1000000 }) only [SV.flatL, SV.flat, Bool.and_true, Bool.and_self, Bool.true_and, beq_self_eq_true, Int.reduceGE, Int.reduceGT, ↓u_callAnd, Blk.mk.injEq, List.cons.injEq, SV.int.injEq, SV.bool.injEq, SV.tup.injEq, SV.agg.injEq, and_self, undef, Int.reduceBNe, Int.reduceBEq, Nat.reduceBNe, Nat.reduceBEq, ↓u_callX, lookF, setv, finO_r, finO_n, finO_x, again_n, again_x, again_r, lookT, eqPat, eqTag, reduceCtorEq, Nat.reduceEqDiff, Nat.reduceAdd, Nat.reduceSub, Nat.reduceMul, Nat.reduceDiv, Nat.reduceLeDiff, Nat.reduceLT, Int.reduceToNat, Int.reduceLT, Int.reduceLE, Int.reduceAdd, Int.reduceSub, Int.reduceMul, Int.reduceNeg, Int.reduceEq, Int.reduceNe, wrap64, false_imp_iff, true_imp_iff, eq_self, decide_true, decide_false, Int.cast_ofNat_Int,  true_and, and_true, false_and, and_false, imp_self, implies_true, List.getElem?_cons_zero, List.getElem?_cons_succ, List.length_cons, List.length_nil, List.append_nil, List.nil_append, List.cons_append, List.take_succ_cons, List.take_zero, List.drop_succ_cons, List.drop_zero, List.take_nil, List.drop_nil, List.reverse_cons, List.reverse_nil, List.map_cons, List.map_nil, Nat.zero_add, Nat.add_zero, frOf, den_nil, den_o0, ↓gd_tt, ↓gd_ff, ↓gd_tf, ↓gd_ft, gd_any, den_o1, kont_app, den_g, setv, Bool.not_true, Bool.not_false, den_skip, den_reg, den_regD, den_regP, den_A, den_seq, den_cond, den_block, den_exit, den_ret, den_b, den_xb, den_xo, den_xc, den_xu, den_rb, den_ro, den_rc, den_ru, den_u, den_loopU, finP_r, finP_n, finP_x, ↓reduceIte, ↓e_box, ↓e_build, ↓e_bslice, ↓e_load, ↓e_store, ↓e_idxS, ↓e_idxV, ↓e_idxT, ↓e_fieldV, ↓e_eqv, ↓e_isNil, ↓e_b2s, ↓e_slcS, ↓e_arrAt, ↓e_ext, ↓e_app, ↓e_copy, ↓e_mv, ↓e_pick, ↓e_new, ↓e_nilc, ↓e_fld, ↓e_idxA, ↓e_bin, ↓e_eqb, ↓e_un, ↓e_conv, ↓e_strS, ↓e_s2b, ↓e_mkfn, ↓e_mksl, ↓e_slcA, ↓e_slcT, ↓e_call, ↓e_callp, ↓e_callv, ↓e_len, ↓e_lenA, ↓e_mx, ↓e_mn, ↓u_onInt, ↓u_onBool, ↓u_onOpt0, ↓u_onOpt1, ↓u_binV, ↓u_srcOf, ↓u_srcSl, ↓binI, ↓binS, ↓fillE, ↓evRes, evA, Opd.ev, Sx.get, put, putO, del, dels, frD, memD, pickD, kills, views, newer, rd, rm, upd, splice, SV.cells?, SV.one, retOf]

  refine ⟨[(2, 0), (3, 0)], _, _, _, [], 2, h31, rfl, ⟨⟨_, rfl, rfl, rfl, rfl⟩, ⟨_, rfl, Nat.le_refl _, rfl⟩, trivial⟩, ⟨by intro x hx; simp at hx; subst hx; intro _; decide, ⟨by simp, trivial⟩⟩, ⟨by decide, by decide, trivial⟩, by intro x hx; simp at hx; rcases hx with rfl | rfl <;> decide, trivial, ?_⟩

  simp (config := { maxSteps := 1000000 }) only [SV.ren, SV.renL, newOwn, targets, rms, Kind.isOwn, eta, Option.getD_some, SV.flatL, SV.flat, Bool.and_true, Bool.and_self, Bool.true_and, beq_self_eq_true, Int.reduceGE, Int.reduceGT, ↓u_callAnd, Blk.mk.injEq, List.cons.injEq, SV.int.injEq, SV.bool.injEq, SV.tup.injEq, SV.agg.injEq, and_self, undef, Int.reduceBNe, Int.reduceBEq, Nat.reduceBNe, Nat.reduceBEq, ↓u_callX, lookF, setv, finO_r, finO_n, finO_x, again_n, again_x, again_r, lookT, eqPat, eqTag, reduceCtorEq, Nat.reduceEqDiff, Nat.reduceAdd, Nat.reduceSub, Nat.reduceMul, Nat.reduceDiv, Nat.reduceLeDiff, Nat.reduceLT, Int.reduceToNat, Int.reduceLT, Int.reduceLE, Int.reduceAdd, Int.reduceSub, Int.reduceMul, Int.reduceNeg, Int.reduceEq, Int.reduceNe, wrap64, false_imp_iff, true_imp_iff, eq_self, decide_true, decide_false, Int.cast_ofNat_Int,  true_and, and_true, false_and, and_false, imp_self, implies_true, List.getElem?_cons_zero, List.getElem?_cons_succ, List.length_cons, List.length_nil, List.append_nil, List.nil_append, List.cons_append, List.take_succ_cons, List.take_zero, List.drop_succ_cons, List.drop_zero, List.take_nil, List.drop_nil, List.reverse_cons, List.reverse_nil, List.map_cons, List.map_nil, Nat.zero_add, Nat.add_zero, frOf, den_nil, den_o0, ↓gd_tt, ↓gd_ff, ↓gd_tf, ↓gd_ft, gd_any, den_o1, kont_app, den_g, setv, Bool.not_true, Bool.not_false, den_skip, den_reg, den_regD, den_regP, den_A, den_seq, den_cond, den_block, den_exit, den_ret, den_b, den_xb, den_xo, den_xc, den_xu, den_rb, den_ro, den_rc, den_ru, den_u, den_loopU, finP_r, finP_n, finP_x, ↓reduceIte, ↓e_box, ↓e_build, ↓e_bslice, ↓e_load, ↓e_store, ↓e_idxS, ↓e_idxV, ↓e_idxT, ↓e_fieldV, ↓e_eqv, ↓e_isNil, ↓e_b2s, ↓e_slcS, ↓e_arrAt, ↓e_ext, ↓e_app, ↓e_copy, ↓e_mv, ↓e_pick, ↓e_new, ↓e_nilc, ↓e_fld, ↓e_idxA, ↓e_bin, ↓e_eqb, ↓e_un, ↓e_conv, ↓e_strS, ↓e_s2b, ↓e_mkfn, ↓e_mksl, ↓e_slcA, ↓e_slcT, ↓e_call, ↓e_callp, ↓e_callv, ↓e_len, ↓e_lenA, ↓e_mx, ↓e_mn, ↓u_onInt, ↓u_onBool, ↓u_onOpt0, ↓u_onOpt1, ↓u_binV, ↓u_srcOf, ↓u_srcSl, ↓binI, ↓binS, ↓fillE, ↓evRes, evA, Opd.ev, Sx.get, put, putO, del, dels, frD, memD, pickD, kills, views, newer, rd, rm, upd, splice, SV.cells?, SV.one, retOf]
theorem f19_of {m t a b c d s l n x0 x1 x2 x3 x4 x5 e : Int}
    (h31 : Fun Tryd.prog tS 31 [.ptr 0 0, .slc 1 0 1 3 (some 3)] [(0, ⟨.own 57, ch m t a b c d s l n⟩), (1, ⟨.view, [bnd 32, bnd 33, bnd 34]⟩)] 2 (.tup [st6 x0 x1 x2 x3 x4 x5, I e]) [] 2) :
    Fun Tryd.prog tS 19 [st6 m t a b c d, .agg [I s, I l], I n] [] 0 (.tup [st6 x0 x1 x2 x3 x4 x5, I e]) [] 0 := by
  refine fun_pure (some 5) (callAnd 31 (callT Tryd.prog tS) (callX tab3)) (callAnd_ok (callX_ok tab3_ok)) chk19 (show 3 ≤ 25 by decide) (fun _ => rfl) ?_
  unfold sf19
  simp (config := { maxSteps := 1000000 }) only [SV.flatL, SV.flat, Bool.and_true, Bool.and_self, Bool.true_and, beq_self_eq_true, Int.reduceGE, Int.reduceGT, ↓u_callAnd, Blk.mk.injEq, List.cons.injEq, SV.int.injEq, SV.bool.injEq, SV.tup.injEq, SV.agg.injEq, and_self, undef, Int.reduceBNe, Int.reduceBEq, Nat.reduceBNe, Nat.reduceBEq, ↓u_callX, lookF, setv, finO_r, finO_n, finO_x, again_n, again_x, again_r, lookT, eqPat, eqTag, reduceCtorEq, Nat.reduceEqDiff, Nat.reduceAdd, Nat.reduceSub, Nat.reduceMul, Nat.reduceDiv, Nat.reduceLeDiff, Nat.reduceLT, Int.reduceToNat, Int.reduceLT, Int.reduceLE, Int.reduceAdd, Int.reduceSub, Int.reduceMul, Int.reduceNeg, Int.reduceEq, Int.reduceNe, wrap64, false_imp_iff, true_imp_iff, eq_self, decide_true, decide_false, Int.cast_ofNat_Int,  true_and, and_true, false_and, and_false, imp_self, implies_true, List.getElem?_cons_zero, List.getElem?_cons_succ, List.length_cons, List.length_nil, List.append_nil, List.nil_append, List.cons_append, List.take_succ_cons, List.take_zero, List.drop_succ_cons, List.drop_zero, List.take_nil, List.drop_nil, List.reverse_cons, List.reverse_nil, List.map_cons, List.map_nil, Nat.zero_add, Nat.add_zero, frOf, den_nil, den_o0, ↓gd_tt, ↓gd_ff, ↓gd_tf, ↓gd_ft, gd_any, den_o1, kont_app, den_g, setv, Bool.not_true, Bool.not_false, den_skip, den_reg, den_regD, den_regP, den_A, den_seq, den_cond, den_block, den_exit, den_ret, den_b, den_xb, den_xo, den_xc, den_xu, den_rb, den_ro, den_rc, den_ru, den_u, den_loopU, finP_r, finP_n, finP_x, ↓reduceIte, ↓e_box, ↓e_build, ↓e_bslice, ↓e_load, ↓e_store, ↓e_idxS, ↓e_idxV, ↓e_idxT, ↓e_fieldV, ↓e_eqv, ↓e_isNil, ↓e_b2s, ↓e_slcS, ↓e_arrAt, ↓e_ext, ↓e_app, ↓e_copy, ↓e_mv, ↓e_pick, ↓e_new, ↓e_nilc, ↓e_fld, ↓e_idxA, ↓e_bin, ↓e_eqb, ↓e_un, ↓e_conv, ↓e_strS, ↓e_s2b, ↓e_mkfn, ↓e_mksl, ↓e_slcA, ↓e_slcT, ↓e_call, ↓e_callp, ↓e_callv, ↓e_len, ↓e_lenA, ↓e_mx, ↓e_mn, ↓u_onInt, ↓u_onBool, ↓u_onOpt0, ↓u_onOpt1, ↓u_binV, ↓u_srcOf, ↓u_srcSl, ↓binI, ↓binS, ↓fillE, ↓evRes, evA, Opd.ev, Sx.get, put, putO, del, dels, frD, memD, pickD, kills, views, newer, rd, rm, upd, splice, SV.cells?, SV.one, retOf]
  refine ⟨[(3, 0), (4, 0)], _, _, _, [], 2, h31, rfl, ⟨⟨_, rfl, rfl, rfl, rfl⟩, ⟨_, rfl, Nat.le_refl _, rfl⟩, trivial⟩, ⟨by intro x hx; simp at hx; subst hx; intro _; decide, ⟨by simp, trivial⟩⟩, ⟨by decide, by decide, trivial⟩, by intro x hx; simp at hx; rcases hx with rfl | rfl <;> decide, trivial, ?_⟩
  simp (config := { maxSteps := 1000000 }) only [SV.ren, SV.renL, newOwn, targets, rms, Kind.isOwn, eta, Option.getD_some, SV.flatL, SV.flat, Bool.and_true, Bool.and_self, Bool.true_and, beq_self_eq_true, Int.reduceGE, Int.reduceGT, ↓u_callAnd, Blk.mk.injEq, List.cons.injEq, SV.int.injEq, SV.bool.injEq, SV.tup.injEq, SV.agg.injEq, and_self, undef, Int.reduceBNe, Int.reduceBEq, Nat.reduceBNe, Nat.reduceBEq, ↓u_callX, lookF, setv, finO_r, finO_n, finO_x, again_n, again_x, again_r, lookT, eqPat, eqTag, reduceCtorEq, Nat.reduceEqDiff, Nat.reduceAdd, Nat.reduceSub, Nat.reduceMul, Nat.reduceDiv, Nat.reduceLeDiff, Nat.reduceLT, Int.reduceToNat, Int.reduceLT, Int.reduceLE, Int.reduceAdd, Int.reduceSub, Int.reduceMul, Int.reduceNeg, Int.reduceEq, Int.reduceNe, wrap64, false_imp_iff, true_imp_iff, eq_self, decide_true, decide_false, Int.cast_ofNat_Int,  true_and, and_true, false_and, and_false, imp_self, implies_true, List.getElem?_cons_zero, List.getElem?_cons_succ, List.length_cons, List.length_nil, List.append_nil, List.nil_append, List.cons_append, List.take_succ_cons, List.take_zero, List.drop_succ_cons, List.drop_zero, List.take_nil, List.drop_nil, List.reverse_cons, List.reverse_nil, List.map_cons, List.map_nil, Nat.zero_add, Nat.add_zero, frOf, den_nil, den_o0, ↓gd_tt, ↓gd_ff, ↓gd_tf, ↓gd_ft, gd_any, den_o1, kont_app, den_g, setv, Bool.not_true, Bool.not_false, den_skip, den_reg, den_regD, den_regP, den_A, den_seq, den_cond, den_block, den_exit, den_ret, den_b, den_xb, den_xo, den_xc, den_xu, den_rb, den_ro, den_rc, den_ru, den_u, den_loopU, finP_r, finP_n, finP_x, ↓reduceIte, ↓e_box, ↓e_build, ↓e_bslice, ↓e_load, ↓e_store, ↓e_idxS, ↓e_idxV, ↓e_idxT, ↓e_fieldV, ↓e_eqv, ↓e_isNil, ↓e_b2s, ↓e_slcS, ↓e_arrAt, ↓e_ext, ↓e_app, ↓e_copy, ↓e_mv, ↓e_pick, ↓e_new, ↓e_nilc, ↓e_fld, ↓e_idxA, ↓e_bin, ↓e_eqb, ↓e_un, ↓e_conv, ↓e_strS, ↓e_s2b, ↓e_mkfn, ↓e_mksl, ↓e_slcA, ↓e_slcT, ↓e_call, ↓e_callp, ↓e_callv, ↓e_len, ↓e_lenA, ↓e_mx, ↓e_mn, ↓u_onInt, ↓u_onBool, ↓u_onOpt0, ↓u_onOpt1, ↓u_binV, ↓u_srcOf, ↓u_srcSl, ↓binI, ↓binS, ↓fillE, ↓evRes, evA, Opd.ev, Sx.get, put, putO, del, dels, frD, memD, pickD, kills, views, newer, rd, rm, upd, splice, SV.cells?, SV.one, retOf]

/-- a state -/
structure St where
  m : Int
  t : Int
  a : Int
  b : Int
  c : Int
  d : Int
abbrev St.sv (s : St) : SV := st6 s.m s.t s.a s.b s.c s.d
def St.zero : St := ⟨0, 0, 0, 0, 0, 0⟩
def St.ok (s : St) : Bool := validB s.m s.t s.a s.b s.c s.d
def St.pass (s : St) (n : Int) : St := ⟨pM s.m s.a s.b s.c s.d (kk s.t n), s.t + 60 * kk s.t n, dec s.a (kk s.t n), dec s.b (kk s.t n), dec s.c (kk s.t n), dec s.d (kk s.t n)⟩
def St.count (s : St) (e l : Int) : St := ⟨s.m, s.t, cnt 1 s.a e l, cnt 2 s.b e l, cnt 3 s.c e l, cnt 4 s.d e l⟩
def St.sum (s : St) : Int := s.a + s.b + s.c + s.d
def St.esc (s : St) (e l : Int) : St := { s with m := Go.Proofs.YtflkcganpgjkkaaDoor.esc s.m s.sum e l }
/-- the errors of Pass and Step -/
def err (s : St) (n : Int) : Int := if s.ok = true ∧ timeB n = true then (if n < s.t then 20 else 0) else 1
def errS (s : St) (e n : Int) : Int := if err s n = 0 then (if knownB e = true then 0 else 1) else err s n
def passS (s : St) (n : Int) : St := if err s n = 0 then (if s.m < 4 then s.pass n else s) else St.zero
def stepS (s : St) (e l n : Int) : St := if errS s e n = 0 then (if s.m < 4 then ((s.pass n).count e l).esc e l else s) else St.zero

theorem f20 (s : St) (n : Int) : Fun Tryd.prog tS 20 [s.sv, I n] [] 0 (.tup [(passS s n).sv, I (err s n)]) [] 0 := by
  by_cases h : s.ok = true ∧ timeB n = true
  · by_cases hb : n < s.t
    · have e : err s n = 20 := by unfold err; rw [if_pos h, if_pos hb]
      have p : passS s n = St.zero := by unfold passS; rw [e]; rfl
      rw [p, e]
      exact f20_of (f31_back _ _ _ _ _ _ _ _ _ _ _ h.1 h.2 hb)
    · have e : err s n = 0 := by unfold err; rw [if_pos h, if_neg hb]
      by_cases hm : s.m < 4
      · have p : passS s n = s.pass n := by unfold passS; rw [if_pos e, if_pos hm]
        rw [p, e]
        exact f20_of (f31_run1 _ _ _ _ _ _ _ _ _ h.1 h.2 hb (by decide) hm)
      · have p : passS s n = s := by unfold passS; rw [if_pos e, if_neg hm]
        rw [p, e]
        exact f20_of (f31_over1 _ _ _ _ _ _ _ _ _ h.1 h.2 hb (by decide) hm)
  · have e : err s n = 1 := by unfold err; rw [if_neg h]
    have p : passS s n = St.zero := by unfold passS; rw [e]; rfl
    rw [p, e]
    exact f20_of (f31_bad _ _ _ _ _ _ _ _ _ _ _ h)

theorem f19 (s : St) (e l n : Int) : Fun Tryd.prog tS 19 [s.sv, .agg [I e, I l], I n] [] 0 (.tup [(stepS s e l n).sv, I (errS s e n)]) [] 0 := by
  by_cases h : s.ok = true ∧ timeB n = true
  · by_cases hb : n < s.t
    · have e1 : err s n = 20 := by unfold err; rw [if_pos h, if_pos hb]
      have e2 : errS s e n = 20 := by unfold errS; rw [e1]; rfl
      have p : stepS s e l n = St.zero := by unfold stepS; rw [e2]; rfl
      rw [p, e2]
      exact f19_of (f31_back _ _ _ _ _ _ _ _ _ _ _ h.1 h.2 hb)
    · have e1 : err s n = 0 := by unfold err; rw [if_pos h, if_neg hb]
      cases hk : knownB e with
      | false =>
        have e2 : errS s e n = 1 := by unfold errS; rw [e1, hk]; rfl
        have p : stepS s e l n = St.zero := by unfold stepS; rw [e2]; rfl
        rw [p, e2]
        exact f19_of (f31_unk _ _ _ _ _ _ _ _ _ _ _ h.1 h.2 hb hk)
      | true =>
        have e2 : errS s e n = 0 := by unfold errS; rw [e1, hk]; rfl
        by_cases hm : s.m < 4
        · have p : stepS s e l n = ((s.pass n).count e l).esc e l := by unfold stepS; rw [if_pos e2, if_pos hm]
          rw [p, e2]
          exact f19_of (f31_run3 _ _ _ _ _ _ _ _ _ h.1 h.2 hb hk hm _ _ _ _ _ rfl rfl rfl rfl rfl)
        · have p : stepS s e l n = s := by unfold stepS; rw [if_pos e2, if_neg hm]
          rw [p, e2]
          exact f19_of (f31_over3 _ _ _ _ _ _ _ _ _ h.1 h.2 hb hk hm)
  · have e1 : err s n = 1 := by unfold err; rw [if_neg h]
    have e2 : errS s e n = 1 := by unfold errS; rw [e1]; rfl
    have p : stepS s e l n = St.zero := by unfold stepS; rw [e2]; rfl
    rw [p, e2]
    exact f19_of (f31_bad _ _ _ _ _ _ _ _ _ _ _ h)
end Go.Proofs.YtflkcganpgjkkaaDoor
