/- The law TamperGlitchesAreTolerated of layer 32: it computes true. -/
import Derived.Test.YtflkcganpgjkkaaDoorTamN
namespace Go.Proofs.YtflkcganpgjkkaaDoor
open Go Go.Sx Sf
set_option maxRecDepth 100000
set_option linter.unusedSimpArgs false
set_option linter.unusedVariables false

/-- a module after some glitches -/
def Glit (i : Nat) (now : Int) (s : St) : Prop :=
  (s.m = 1 ∨ s.m = 2) ∧ 0 ≤ s.t ∧ s.t ≤ now ∧ now ≤ 4294967296 + 17000 * (i : Int) ∧ (0 ≤ s.a ∧ s.a ≤ 3) ∧ (0 ≤ s.b ∧ s.b ≤ 3) ∧ (0 ≤ s.c ∧ s.c ≤ 3) ∧ (0 ≤ s.d ∧ s.d ≤ 3) ∧ (s.m = 1 → s.sum = 0)
theorem glit_ok {i : Nat} {now : Int} {s : St} (hi : i ≤ 60) (h : Glit i now s) : s.ok = true := by
  obtain ⟨h1, h2, h3, h4, h5, h6, h7, h8, h9⟩ := h
  refine ok_iff.2 ⟨by omega, by omega, by omega, by omega, by omega, by omega⟩
theorem glit_pass {i : Nat} {now n : Int} {s : St} (h : Glit i now s) (hn : now + 180 ≤ n) : (s.pass n).m = 1 ∧ (s.pass n).a = 0 ∧ (s.pass n).b = 0 ∧ (s.pass n).c = 0 ∧ (s.pass n).d = 0 ∧ s.t ≤ (s.pass n).t ∧ (s.pass n).t ≤ n := by
  obtain ⟨h1, h2, h3, h4, h5, h6, h7, h8, h9⟩ := h
  have hk : 3 ≤ kk s.t n ∧ 60 * kk s.t n ≤ n - s.t := by unfold kk; omega
  have d0 : ∀ x, x ≤ 3 → dec x (kk s.t n) = 0 := by intro x hx; unfold dec; rw [if_neg (by omega)]
  have ea := d0 s.a (by omega)
  have eb := d0 s.b (by omega)
  have ec := d0 s.c (by omega)
  have ed := d0 s.d (by omega)
  simp only [St.pass, ea, eb, ec, ed]
  refine ⟨?_, trivial, trivial, trivial, trivial, by omega, by omega⟩
  unfold pM
  rw [ea, eb, ec, ed]
  split <;> omega
theorem glit_step {i : Nat} {now n e l : Int} {s : St} (hi : i ≤ 60) (h : Glit i now s) (h1 : now + 180 ≤ n) (h2 : n ≤ now + 180 + 16384) (he : e = 2 ∨ e = 3 ∨ e = 4) (hal : alarmB e l = true) :
    errS s e n = 0 ∧ (stepS s e l n).m = 2 ∧ Glit (i + 1) n (stepS s e l n) := by
  have hok := glit_ok hi h
  have hp := glit_pass h h1
  have hh := h
  obtain ⟨q1, q2, q3, q4, q5, q6, q7, q8, q9⟩ := hh
  have hn : timeB n = true := by simp only [timeB, decide_eq_true_eq]; omega
  have e0 : err s n = 0 := err_of hok hn (by omega)
  have hk : knownB e = true := by simp only [knownB, decide_eq_true_eq]; omega
  have e1 : errS s e n = 0 := by unfold errS; rw [if_pos e0, if_pos hk]
  have hm : s.m < 4 := by omega
  have es : stepS s e l n = ((s.pass n).count e l).esc e l := by unfold stepS; rw [if_pos e1, if_pos hm]
  rw [es]
  obtain ⟨p1, p2, p3, p4, p5, p6, p7⟩ := hp
  generalize s.pass n = p at *
  obtain ⟨m, t, a, b, c, d⟩ := p
  simp only at p1 p2 p3 p4 p5 p6 p7
  subst p1; subst p2; subst p3; subst p4; subst p5
  refine ⟨e1, ?_⟩
  have hw : wgt e = 3 ∨ wgt e = 1 := by unfold wgt; rcases he with rfl | rfl | rfl <;> simp
  have hS : ∃ x : Int, (x = 3 ∨ x = 1) ∧ (St.count ⟨1, t, 0, 0, 0, 0⟩ e l = ⟨1, t, 0, x, 0, 0⟩ ∨ St.count ⟨1, t, 0, 0, 0, 0⟩ e l = ⟨1, t, 0, 0, x, 0⟩ ∨ St.count ⟨1, t, 0, 0, 0, 0⟩ e l = ⟨1, t, 0, 0, 0, x⟩) := by
    refine ⟨wgt e, hw, ?_⟩
    have hc : (if (0 : Int) + wgt e < 100 then 0 + wgt e else 100) = wgt e := by rw [if_pos (by omega)]; omega
    rcases he with rfl | rfl | rfl
    · left; simp only [St.count, cnt, hal, and_true, hc]; simp
    · right; left; simp only [St.count, cnt, hal, and_true, hc]; simp
    · right; right; simp only [St.count, cnt, hal, and_true, hc]; simp
  obtain ⟨x, hx, hS⟩ := hS
  have key : ∀ T : Int, T = x → esc 1 T e l = 2 := by
    intro T hT
    unfold esc escq
    rw [if_pos hal]
    rcases hx with rfl | rfl <;> subst hT <;> rcases he with rfl | rfl | rfl <;> simp
  have hnn : n ≤ 4294967296 + 17000 * ((i + 1 : Nat) : Int) := by omega
  rcases hS with h | h | h
  all_goals
    rw [h]
    simp only [St.esc, St.sum, Glit, key _ (show (0 : Int) + x + 0 + 0 = x by omega), key _ (show (0 : Int) + 0 + x + 0 = x by omega), key _ (show (0 : Int) + 0 + 0 + x = x by omega)]
    refine ⟨trivial, ?_⟩
    refine ⟨.inr trivial, by omega, by omega, by omega, ?_, ?_, ?_, ?_, ?_⟩ <;> omega
theorem glit_end {i : Nat} {now : Int} {s : St} (hi : i ≤ 60) (h : Glit i now s) : err s (now + 240) = 0 ∧ (passS s (now + 240)).m = 1 ∧ (passS s (now + 240)).sum = 0 ∧ (passS s (now + 240)).ok = true := by
  have hok := glit_ok hi h
  have hp := glit_pass (n := now + 240) h (by omega)
  obtain ⟨q1, q2, q3, q4, q5, q6, q7, q8, q9⟩ := h
  have hn : timeB (now + 240) = true := by simp only [timeB, decide_eq_true_eq]; omega
  have e0 : err s (now + 240) = 0 := err_of hok hn (by omega)
  have es : passS s (now + 240) = s.pass (now + 240) := by unfold passS; rw [if_pos e0, if_pos (by omega)]
  refine ⟨e0, ?_, ?_, passS_ok e0⟩
  · rw [es]; exact hp.1
  · rw [es]; obtain ⟨_, a, b, c, d, _⟩ := hp; unfold St.sum; omega

structure GS where
  i : Nat
  now : Int
  s : St

set_option maxHeartbeats 4000000 in
theorem f7 (st : Int) (hst : 0 ≤ st ∧ st < 4294967296) (len : Nat) (cells : List SV) (hl : len ≤ 9223372036854775807) (hrows : RowsSV [.i .u16] len cells) :
    Fun Tryd.prog tS 7 [.int .u32 st, .slc 0 0 1 len none] [(0, ⟨.view, cells⟩)] 1 (.bool true) [] 1 := by
  refine fun_val none (callX tab8) (callX_ok tab8_ok) chk7 (show 2 ≤ 101 by decide) (fun _ => rfl) ?_
  unfold sf7
  by_cases hlen : 60 < len
  · have hg : (len : Int) > 60 := by omega
    simp (config := { maxSteps := 10000000 }) only [hg, tab8, tab7, tab5, tab4, tab2, ↓g9, SV.flatL, SV.flat, Bool.and_true, Bool.and_self, Bool.true_and, beq_self_eq_true, Int.reduceGE, Int.reduceGT, ↓u_callAnd, Blk.mk.injEq, List.cons.injEq, SV.int.injEq, SV.bool.injEq, SV.tup.injEq, SV.agg.injEq, and_self, undef, Int.reduceBNe, Int.reduceBEq, Nat.reduceBNe, Nat.reduceBEq, ↓u_callX, lookF, setv, finO_r, finO_n, finO_x, again_n, again_x, again_r, lookT, eqPat, eqTag, reduceCtorEq, Nat.reduceEqDiff, Nat.reduceAdd, Nat.reduceSub, Nat.reduceMul, Nat.reduceDiv, Nat.reduceLeDiff, Nat.reduceLT, Int.reduceToNat, Int.reduceLT, Int.reduceLE, Int.reduceAdd, Int.reduceSub, Int.reduceMul, Int.reduceNeg, Int.reduceEq, Int.reduceNe, wrap64, false_imp_iff, true_imp_iff, eq_self, decide_true, decide_false, Int.cast_ofNat_Int,  true_and, and_true, false_and, and_false, imp_self, implies_true, List.getElem?_cons_zero, List.getElem?_cons_succ, List.length_cons, List.length_nil, List.append_nil, List.nil_append, List.cons_append, List.take_succ_cons, List.take_zero, List.drop_succ_cons, List.drop_zero, List.take_nil, List.drop_nil, List.reverse_cons, List.reverse_nil, List.map_cons, List.map_nil, Nat.zero_add, Nat.add_zero, frOf, den_nil, den_o0, ↓gd_tt, ↓gd_ff, ↓gd_tf, ↓gd_ft, gd_any, den_o1, kont_app, den_g, setv, Bool.not_true, Bool.not_false, den_skip, den_reg, den_regD, den_regP, den_A, den_regW, den_W, den_bad, evW, baseD, stBlk, touch, clear, untouched, updsW, List.all_cons, List.all_nil, List.contains_cons, List.contains_nil, Bool.not_true, Bool.not_false, Bool.or_false, Bool.or_self, Bool.false_or, Bool.true_or, Bool.or_true, den_seq, den_cond, den_block, den_exit, den_ret, den_b, den_xb, den_xo, den_xc, den_xu, den_rb, den_ro, den_rc, den_ru, den_u, den_loopU, finP_r, finP_n, finP_x, ↓reduceIte, ↓e_box, ↓e_build, ↓e_bslice, ↓e_load, ↓e_store, ↓e_idxS, ↓e_idxV, ↓e_idxT, ↓e_fieldV, ↓e_eqv, ↓e_isNil, ↓e_b2s, ↓e_slcS, ↓e_arrAt, ↓e_ext, ↓e_app, ↓e_copy, ↓e_mv, ↓e_pick, ↓e_new, ↓e_nilc, ↓e_fld, ↓e_idxA, ↓e_bin, ↓e_eqb, ↓e_un, ↓e_conv, ↓e_strS, ↓e_s2b, ↓e_mkfn, ↓e_mksl, ↓e_slcA, ↓e_slcT, ↓e_call, ↓e_callp, ↓e_callv, ↓e_len, ↓e_lenA, ↓e_mx, ↓e_mn, ↓u_onInt, ↓u_onBool, ↓u_onOpt0, ↓u_onOpt1, ↓u_binV, ↓u_srcOf, ↓u_srcSl, ↓binI, ↓binS, ↓fillE, ↓evRes, evA, Opd.ev, Sx.get, put, putO, del, dels, frD, memD, pickD, kills, views, newer, rd, rm, upd, splice, SV.cells?, SV.one, retOf]
  have hg : ¬ ((len : Int) > 60) := by omega
  have ws : IntKind.i64.wrap st = st := wrap64 (by omega) (by omega)
  have hn0 : timeB st = true := by simp only [timeB, decide_eq_true_eq]; omega
  have n1 : newS st = ⟨1, st, 0, 0, 0, 0⟩ := by unfold newS; rw [if_pos hn0]
  have n2 : newE st = 0 := by unfold newE; rw [if_pos hn0]
  simp (config := { maxSteps := 10000000 }) only [hg, ws, n1, n2, St.sv, tab8, tab7, tab5, tab4, tab2, ↓g9, ↓g22, SV.flatL, SV.flat, Bool.and_true, Bool.and_self, Bool.true_and, beq_self_eq_true, Int.reduceGE, Int.reduceGT, ↓u_callAnd, Blk.mk.injEq, List.cons.injEq, SV.int.injEq, SV.bool.injEq, SV.tup.injEq, SV.agg.injEq, and_self, undef, Int.reduceBNe, Int.reduceBEq, Nat.reduceBNe, Nat.reduceBEq, ↓u_callX, lookF, setv, finO_r, finO_n, finO_x, again_n, again_x, again_r, lookT, eqPat, eqTag, reduceCtorEq, Nat.reduceEqDiff, Nat.reduceAdd, Nat.reduceSub, Nat.reduceMul, Nat.reduceDiv, Nat.reduceLeDiff, Nat.reduceLT, Int.reduceToNat, Int.reduceLT, Int.reduceLE, Int.reduceAdd, Int.reduceSub, Int.reduceMul, Int.reduceNeg, Int.reduceEq, Int.reduceNe, wrap64, false_imp_iff, true_imp_iff, eq_self, decide_true, decide_false, Int.cast_ofNat_Int,  true_and, and_true, false_and, and_false, imp_self, implies_true, List.getElem?_cons_zero, List.getElem?_cons_succ, List.length_cons, List.length_nil, List.append_nil, List.nil_append, List.cons_append, List.take_succ_cons, List.take_zero, List.drop_succ_cons, List.drop_zero, List.take_nil, List.drop_nil, List.reverse_cons, List.reverse_nil, List.map_cons, List.map_nil, Nat.zero_add, Nat.add_zero, frOf, den_nil, den_o0, ↓gd_tt, ↓gd_ff, ↓gd_tf, ↓gd_ft, gd_any, den_o1, kont_app, den_g, setv, Bool.not_true, Bool.not_false, den_skip, den_reg, den_regD, den_regP, den_A, den_regW, den_W, den_bad, evW, baseD, stBlk, touch, clear, untouched, updsW, List.all_cons, List.all_nil, List.contains_cons, List.contains_nil, Bool.not_true, Bool.not_false, Bool.or_false, Bool.or_self, Bool.false_or, Bool.true_or, Bool.or_true, den_seq, den_cond, den_block, den_exit, den_ret, den_b, den_xb, den_xo, den_xc, den_xu, den_rb, den_ro, den_rc, den_ru, den_u, den_loopU, finP_r, finP_n, finP_x, ↓reduceIte, ↓e_box, ↓e_build, ↓e_bslice, ↓e_load, ↓e_store, ↓e_idxS, ↓e_idxV, ↓e_idxT, ↓e_fieldV, ↓e_eqv, ↓e_isNil, ↓e_b2s, ↓e_slcS, ↓e_arrAt, ↓e_ext, ↓e_app, ↓e_copy, ↓e_mv, ↓e_pick, ↓e_new, ↓e_nilc, ↓e_fld, ↓e_idxA, ↓e_bin, ↓e_eqb, ↓e_un, ↓e_conv, ↓e_strS, ↓e_s2b, ↓e_mkfn, ↓e_mksl, ↓e_slcA, ↓e_slcT, ↓e_call, ↓e_callp, ↓e_callv, ↓e_len, ↓e_lenA, ↓e_mx, ↓e_mn, ↓u_onInt, ↓u_onBool, ↓u_onOpt0, ↓u_onOpt1, ↓u_binV, ↓u_srcOf, ↓u_srcSl, ↓binI, ↓binS, ↓fillE, ↓evRes, evA, Opd.ev, Sx.get, put, putO, del, dels, frD, memD, pickD, kills, views, newer, rd, rm, upd, splice, SV.cells?, SV.one, retOf]
  rw [den_loop]
  have hren := fun η => hrows.ren η
  have hlen3 : cells.length = len * 1 := hrows.len
  refine den_inv (callX_ok tab8_ok) (σ := GS) (fun g => [(9, I g.i), (6, I g.now), (7, .ptr 1 0), (5, .bool true), (1, .slc 0 0 1 len none)])
    (fun g => [(1, ⟨.own 24, [I g.s.m, I g.s.t, I g.s.a, I g.s.b, I g.s.c, I g.s.d]⟩), (0, ⟨.view, cells⟩)]) (fun _ => 2) (fun g => g.i ≤ len ∧ Glit g.i g.now g.s) (fun g => len - g.i) ⟨0, st, ⟨1, st, 0, 0, 0, 0⟩⟩ ?_ ?_ ?_
  · exact ⟨[(0, 0), (1, 0)], by simp [hren, EntM, compat, apartM, keysBelow, frEnt, geto, eta, idHs, rd, SV.ren, SV.renL, Option.getD_some, Option.getD_none, List.getElem?_cons_zero, List.getElem?_cons_succ, List.getElem?_nil, List.length_cons, List.length_nil, Nat.zero_add, Nat.add_zero, Nat.reduceAdd, Nat.reduceSub, Nat.reduceEqDiff, Nat.reduceLT, Nat.reduceLeDiff, ↓reduceIte, Kind.isOwn, List.take_succ_cons, List.take_zero, List.nil_append, List.cons_append, List.append_nil, List.take_nil, and_self, and_true, true_and, exists_eq_left', Option.some.injEq, Blk.mk.injEq, Kind.own.injEq, List.drop_zero, List.take_length, Nat.le_refl, ne_eq, not_false_eq_true, implies_true, List.forall_mem_cons, List.not_mem_nil, false_imp_iff, Bool.or_false, Bool.false_or, Bool.or_self, Bool.true_or, Bool.or_true, forall_const, reduceCtorEq, List.mem_cons, or_false, forall_eq_or_imp, forall_eq, Nat.succ_ne_self, exists_eq_left, Option.some_inj], by simp [hren, EntM, compat, apartM, keysBelow, frEnt, geto, eta, idHs, rd, SV.ren, SV.renL, Option.getD_some, Option.getD_none, List.getElem?_cons_zero, List.getElem?_cons_succ, List.getElem?_nil, List.length_cons, List.length_nil, Nat.zero_add, Nat.add_zero, Nat.reduceAdd, Nat.reduceSub, Nat.reduceEqDiff, Nat.reduceLT, Nat.reduceLeDiff, ↓reduceIte, Kind.isOwn, List.take_succ_cons, List.take_zero, List.nil_append, List.cons_append, List.append_nil, List.take_nil, and_self, and_true, true_and, exists_eq_left', Option.some.injEq, Blk.mk.injEq, Kind.own.injEq, List.drop_zero, List.take_length, Nat.le_refl, ne_eq, not_false_eq_true, implies_true, List.forall_mem_cons, List.not_mem_nil, false_imp_iff, Bool.or_false, Bool.false_or, Bool.or_self, Bool.true_or, Bool.or_true, forall_const, reduceCtorEq, List.mem_cons, or_false, forall_eq_or_imp, forall_eq, Nat.succ_ne_self, exists_eq_left, Option.some_inj]⟩
  · refine ⟨Nat.zero_le _, ?_⟩
    unfold Glit St.sum
    simp only
    refine ⟨.inl trivial, by omega, by omega, by omega, ?_, ?_, ?_, ?_, ?_⟩ <;> omega
  · rintro ⟨i, now, s⟩ ⟨hi, hG⟩
    simp only at hi hG
    by_cases hlt : i < len
    · obtain ⟨r, hr1, hr2⟩ := hrows.row hlt
      simp only [TagsSV, TagSV] at hr1
      obtain ⟨_, _, rfl, ⟨q, rfl, hq⟩, rfl⟩ := hr1
      have hq2 : 0 ≤ q ∧ q < 65536 := by
        simp [Lit.wf, IntKind.min, IntKind.max, IntKind.signed, IntKind.bits] at hq; omega
      have k2 : cells[i * 1]? = some (.int .u16 q) := get_of_row (k := 0) hr2 (by decide)
      have c1h : i * 1 < cells.length := by omega
      have ilt : (i : Int) < (len : Int) := by omega
      have i0 : (0 : Int) ≤ (i : Int) := by omega
      have wi : IntKind.i64.wrap ((i : Int) + 1) = ((i + 1 : Nat) : Int) := by rw [wrap64 (by omega) (by omega)]; omega
      have hG' := hG
      obtain ⟨_, g2, g3, g4, _⟩ := hG'
      have w1 : IntKind.i64.wrap (now + 180) = now + 180 := wrap64 (by omega) (by omega)
      have w2 : IntKind.i64.wrap q = q := wrap64 (by omega) (by omega)
      have w3 : IntKind.i64.wrap (q.tdiv 4) = q / 4 := by rw [Int.tdiv_eq_ediv_of_nonneg (by omega), wrap64 (by omega) (by omega)]
      have w4 : IntKind.i64.wrap (now + 180 + q / 4) = now + 180 + q / 4 := wrap64 (by omega) (by omega)
      have hr : q.tmod 3 = 0 ∨ q.tmod 3 = 1 ∨ q.tmod 3 = 2 := by rw [Int.tmod_eq_emod_of_nonneg hq2.1]; omega
      obtain ⟨n, hn⟩ : ∃ n, n = now + 180 + q / 4 := ⟨_, rfl⟩
      rw [← hn] at w4
      rcases hr with hr | hr | hr
      · obtain ⟨S1, S2, S3⟩ := glit_step (n := n) (e := 2) (l := 10) (by omega) hG (by omega) (by omega) (.inl rfl) (by decide)
        generalize hs1 : stepS s 2 10 n = p at *
        obtain ⟨m, t, a, b, c, d⟩ := s
        obtain ⟨m1, t1, a1, b1, c1', d1⟩ := p
        simp only at S2
        subst S2
        simp (config := { maxSteps := 10000000 }) only [hr, hs1, S1, w1, w2, w3, ← hn, w4, k2, c1h, ilt, i0, wi, Int.toNat_natCast, St.sv, tab8, tab7, tab5, tab4, tab2, ↓g9, ↓g19, SV.flatL, SV.flat, Bool.and_true, Bool.and_self, Bool.true_and, beq_self_eq_true, Int.reduceGE, Int.reduceGT, ↓u_callAnd, Blk.mk.injEq, List.cons.injEq, SV.int.injEq, SV.bool.injEq, SV.tup.injEq, SV.agg.injEq, and_self, undef, Int.reduceBNe, Int.reduceBEq, Nat.reduceBNe, Nat.reduceBEq, ↓u_callX, lookF, setv, finO_r, finO_n, finO_x, again_n, again_x, again_r, lookT, eqPat, eqTag, reduceCtorEq, Nat.reduceEqDiff, Nat.reduceAdd, Nat.reduceSub, Nat.reduceMul, Nat.reduceDiv, Nat.reduceLeDiff, Nat.reduceLT, Int.reduceToNat, Int.reduceLT, Int.reduceLE, Int.reduceAdd, Int.reduceSub, Int.reduceMul, Int.reduceNeg, Int.reduceEq, Int.reduceNe, wrap64, false_imp_iff, true_imp_iff, eq_self, decide_true, decide_false, Int.cast_ofNat_Int,  true_and, and_true, false_and, and_false, imp_self, implies_true, List.getElem?_cons_zero, List.getElem?_cons_succ, List.length_cons, List.length_nil, List.append_nil, List.nil_append, List.cons_append, List.take_succ_cons, List.take_zero, List.drop_succ_cons, List.drop_zero, List.take_nil, List.drop_nil, List.reverse_cons, List.reverse_nil, List.map_cons, List.map_nil, Nat.zero_add, Nat.add_zero, frOf, den_nil, den_o0, ↓gd_tt, ↓gd_ff, ↓gd_tf, ↓gd_ft, gd_any, den_o1, kont_app, den_g, setv, Bool.not_true, Bool.not_false, den_skip, den_reg, den_regD, den_regP, den_A, den_regW, den_W, den_bad, evW, baseD, stBlk, touch, clear, untouched, updsW, List.all_cons, List.all_nil, List.contains_cons, List.contains_nil, Bool.not_true, Bool.not_false, Bool.or_false, Bool.or_self, Bool.false_or, Bool.true_or, Bool.or_true, den_seq, den_cond, den_block, den_exit, den_ret, den_b, den_xb, den_xo, den_xc, den_xu, den_rb, den_ro, den_rc, den_ru, den_u, den_loopU, finP_r, finP_n, finP_x, ↓reduceIte, ↓e_box, ↓e_build, ↓e_bslice, ↓e_load, ↓e_store, ↓e_idxS, ↓e_idxV, ↓e_idxT, ↓e_fieldV, ↓e_eqv, ↓e_isNil, ↓e_b2s, ↓e_slcS, ↓e_arrAt, ↓e_ext, ↓e_app, ↓e_copy, ↓e_mv, ↓e_pick, ↓e_new, ↓e_nilc, ↓e_fld, ↓e_idxA, ↓e_bin, ↓e_eqb, ↓e_un, ↓e_conv, ↓e_strS, ↓e_s2b, ↓e_mkfn, ↓e_mksl, ↓e_slcA, ↓e_slcT, ↓e_call, ↓e_callp, ↓e_callv, ↓e_len, ↓e_lenA, ↓e_mx, ↓e_mn, ↓u_onInt, ↓u_onBool, ↓u_onOpt0, ↓u_onOpt1, ↓u_binV, ↓u_srcOf, ↓u_srcSl, ↓binI, ↓binS, ↓fillE, ↓evRes, evA, Opd.ev, Sx.get, put, putO, del, dels, frD, memD, pickD, kills, views, newer, rd, rm, upd, splice, SV.cells?, SV.one, retOf]
        exact ⟨⟨i + 1, n, ⟨2, t1, a1, b1, c1', d1⟩⟩, ⟨[(0, 0), (1, 0)], by simp [hren, EntM, compat, apartM, keysBelow, frEnt, geto, eta, idHs, rd, SV.ren, SV.renL, Option.getD_some, Option.getD_none, List.getElem?_cons_zero, List.getElem?_cons_succ, List.getElem?_nil, List.length_cons, List.length_nil, Nat.zero_add, Nat.add_zero, Nat.reduceAdd, Nat.reduceSub, Nat.reduceEqDiff, Nat.reduceLT, Nat.reduceLeDiff, ↓reduceIte, Kind.isOwn, List.take_succ_cons, List.take_zero, List.nil_append, List.cons_append, List.append_nil, List.take_nil, and_self, and_true, true_and, exists_eq_left', Option.some.injEq, Blk.mk.injEq, Kind.own.injEq, List.drop_zero, List.take_length, Nat.le_refl, ne_eq, not_false_eq_true, implies_true, List.forall_mem_cons, List.not_mem_nil, false_imp_iff, Bool.or_false, Bool.false_or, Bool.or_self, Bool.true_or, Bool.or_true, forall_const, reduceCtorEq, List.mem_cons, or_false, forall_eq_or_imp, forall_eq, Nat.succ_ne_self, exists_eq_left, Option.some_inj], by simp [hren, EntM, compat, apartM, keysBelow, frEnt, geto, eta, idHs, rd, SV.ren, SV.renL, Option.getD_some, Option.getD_none, List.getElem?_cons_zero, List.getElem?_cons_succ, List.getElem?_nil, List.length_cons, List.length_nil, Nat.zero_add, Nat.add_zero, Nat.reduceAdd, Nat.reduceSub, Nat.reduceEqDiff, Nat.reduceLT, Nat.reduceLeDiff, ↓reduceIte, Kind.isOwn, List.take_succ_cons, List.take_zero, List.nil_append, List.cons_append, List.append_nil, List.take_nil, and_self, and_true, true_and, exists_eq_left', Option.some.injEq, Blk.mk.injEq, Kind.own.injEq, List.drop_zero, List.take_length, Nat.le_refl, ne_eq, not_false_eq_true, implies_true, List.forall_mem_cons, List.not_mem_nil, false_imp_iff, Bool.or_false, Bool.false_or, Bool.or_self, Bool.true_or, Bool.or_true, forall_const, reduceCtorEq, List.mem_cons, or_false, forall_eq_or_imp, forall_eq, Nat.succ_ne_self, exists_eq_left, Option.some_inj]⟩, ⟨by simp only; omega, S3⟩, by simp only; omega⟩
      · obtain ⟨S1, S2, S3⟩ := glit_step (n := n) (e := 3) (l := (-100)) (by omega) hG (by omega) (by omega) (.inr (.inl rfl)) (by decide)
        generalize hs1 : stepS s 3 (-100) n = p at *
        obtain ⟨m, t, a, b, c, d⟩ := s
        obtain ⟨m1, t1, a1, b1, c1', d1⟩ := p
        simp only at S2
        subst S2
        simp (config := { maxSteps := 10000000 }) only [hr, hs1, S1, w1, w2, w3, ← hn, w4, k2, c1h, ilt, i0, wi, Int.toNat_natCast, St.sv, tab8, tab7, tab5, tab4, tab2, ↓g9, ↓g19, SV.flatL, SV.flat, Bool.and_true, Bool.and_self, Bool.true_and, beq_self_eq_true, Int.reduceGE, Int.reduceGT, ↓u_callAnd, Blk.mk.injEq, List.cons.injEq, SV.int.injEq, SV.bool.injEq, SV.tup.injEq, SV.agg.injEq, and_self, undef, Int.reduceBNe, Int.reduceBEq, Nat.reduceBNe, Nat.reduceBEq, ↓u_callX, lookF, setv, finO_r, finO_n, finO_x, again_n, again_x, again_r, lookT, eqPat, eqTag, reduceCtorEq, Nat.reduceEqDiff, Nat.reduceAdd, Nat.reduceSub, Nat.reduceMul, Nat.reduceDiv, Nat.reduceLeDiff, Nat.reduceLT, Int.reduceToNat, Int.reduceLT, Int.reduceLE, Int.reduceAdd, Int.reduceSub, Int.reduceMul, Int.reduceNeg, Int.reduceEq, Int.reduceNe, wrap64, false_imp_iff, true_imp_iff, eq_self, decide_true, decide_false, Int.cast_ofNat_Int,  true_and, and_true, false_and, and_false, imp_self, implies_true, List.getElem?_cons_zero, List.getElem?_cons_succ, List.length_cons, List.length_nil, List.append_nil, List.nil_append, List.cons_append, List.take_succ_cons, List.take_zero, List.drop_succ_cons, List.drop_zero, List.take_nil, List.drop_nil, List.reverse_cons, List.reverse_nil, List.map_cons, List.map_nil, Nat.zero_add, Nat.add_zero, frOf, den_nil, den_o0, ↓gd_tt, ↓gd_ff, ↓gd_tf, ↓gd_ft, gd_any, den_o1, kont_app, den_g, setv, Bool.not_true, Bool.not_false, den_skip, den_reg, den_regD, den_regP, den_A, den_regW, den_W, den_bad, evW, baseD, stBlk, touch, clear, untouched, updsW, List.all_cons, List.all_nil, List.contains_cons, List.contains_nil, Bool.not_true, Bool.not_false, Bool.or_false, Bool.or_self, Bool.false_or, Bool.true_or, Bool.or_true, den_seq, den_cond, den_block, den_exit, den_ret, den_b, den_xb, den_xo, den_xc, den_xu, den_rb, den_ro, den_rc, den_ru, den_u, den_loopU, finP_r, finP_n, finP_x, ↓reduceIte, ↓e_box, ↓e_build, ↓e_bslice, ↓e_load, ↓e_store, ↓e_idxS, ↓e_idxV, ↓e_idxT, ↓e_fieldV, ↓e_eqv, ↓e_isNil, ↓e_b2s, ↓e_slcS, ↓e_arrAt, ↓e_ext, ↓e_app, ↓e_copy, ↓e_mv, ↓e_pick, ↓e_new, ↓e_nilc, ↓e_fld, ↓e_idxA, ↓e_bin, ↓e_eqb, ↓e_un, ↓e_conv, ↓e_strS, ↓e_s2b, ↓e_mkfn, ↓e_mksl, ↓e_slcA, ↓e_slcT, ↓e_call, ↓e_callp, ↓e_callv, ↓e_len, ↓e_lenA, ↓e_mx, ↓e_mn, ↓u_onInt, ↓u_onBool, ↓u_onOpt0, ↓u_onOpt1, ↓u_binV, ↓u_srcOf, ↓u_srcSl, ↓binI, ↓binS, ↓fillE, ↓evRes, evA, Opd.ev, Sx.get, put, putO, del, dels, frD, memD, pickD, kills, views, newer, rd, rm, upd, splice, SV.cells?, SV.one, retOf]
        exact ⟨⟨i + 1, n, ⟨2, t1, a1, b1, c1', d1⟩⟩, ⟨[(0, 0), (1, 0)], by simp [hren, EntM, compat, apartM, keysBelow, frEnt, geto, eta, idHs, rd, SV.ren, SV.renL, Option.getD_some, Option.getD_none, List.getElem?_cons_zero, List.getElem?_cons_succ, List.getElem?_nil, List.length_cons, List.length_nil, Nat.zero_add, Nat.add_zero, Nat.reduceAdd, Nat.reduceSub, Nat.reduceEqDiff, Nat.reduceLT, Nat.reduceLeDiff, ↓reduceIte, Kind.isOwn, List.take_succ_cons, List.take_zero, List.nil_append, List.cons_append, List.append_nil, List.take_nil, and_self, and_true, true_and, exists_eq_left', Option.some.injEq, Blk.mk.injEq, Kind.own.injEq, List.drop_zero, List.take_length, Nat.le_refl, ne_eq, not_false_eq_true, implies_true, List.forall_mem_cons, List.not_mem_nil, false_imp_iff, Bool.or_false, Bool.false_or, Bool.or_self, Bool.true_or, Bool.or_true, forall_const, reduceCtorEq, List.mem_cons, or_false, forall_eq_or_imp, forall_eq, Nat.succ_ne_self, exists_eq_left, Option.some_inj], by simp [hren, EntM, compat, apartM, keysBelow, frEnt, geto, eta, idHs, rd, SV.ren, SV.renL, Option.getD_some, Option.getD_none, List.getElem?_cons_zero, List.getElem?_cons_succ, List.getElem?_nil, List.length_cons, List.length_nil, Nat.zero_add, Nat.add_zero, Nat.reduceAdd, Nat.reduceSub, Nat.reduceEqDiff, Nat.reduceLT, Nat.reduceLeDiff, ↓reduceIte, Kind.isOwn, List.take_succ_cons, List.take_zero, List.nil_append, List.cons_append, List.append_nil, List.take_nil, and_self, and_true, true_and, exists_eq_left', Option.some.injEq, Blk.mk.injEq, Kind.own.injEq, List.drop_zero, List.take_length, Nat.le_refl, ne_eq, not_false_eq_true, implies_true, List.forall_mem_cons, List.not_mem_nil, false_imp_iff, Bool.or_false, Bool.false_or, Bool.or_self, Bool.true_or, Bool.or_true, forall_const, reduceCtorEq, List.mem_cons, or_false, forall_eq_or_imp, forall_eq, Nat.succ_ne_self, exists_eq_left, Option.some_inj]⟩, ⟨by simp only; omega, S3⟩, by simp only; omega⟩
      · obtain ⟨S1, S2, S3⟩ := glit_step (n := n) (e := 4) (l := 85) (by omega) hG (by omega) (by omega) (.inr (.inr rfl)) (by decide)
        generalize hs1 : stepS s 4 85 n = p at *
        obtain ⟨m, t, a, b, c, d⟩ := s
        obtain ⟨m1, t1, a1, b1, c1', d1⟩ := p
        simp only at S2
        subst S2
        simp (config := { maxSteps := 10000000 }) only [hr, hs1, S1, w1, w2, w3, ← hn, w4, k2, c1h, ilt, i0, wi, Int.toNat_natCast, St.sv, tab8, tab7, tab5, tab4, tab2, ↓g9, ↓g19, SV.flatL, SV.flat, Bool.and_true, Bool.and_self, Bool.true_and, beq_self_eq_true, Int.reduceGE, Int.reduceGT, ↓u_callAnd, Blk.mk.injEq, List.cons.injEq, SV.int.injEq, SV.bool.injEq, SV.tup.injEq, SV.agg.injEq, and_self, undef, Int.reduceBNe, Int.reduceBEq, Nat.reduceBNe, Nat.reduceBEq, ↓u_callX, lookF, setv, finO_r, finO_n, finO_x, again_n, again_x, again_r, lookT, eqPat, eqTag, reduceCtorEq, Nat.reduceEqDiff, Nat.reduceAdd, Nat.reduceSub, Nat.reduceMul, Nat.reduceDiv, Nat.reduceLeDiff, Nat.reduceLT, Int.reduceToNat, Int.reduceLT, Int.reduceLE, Int.reduceAdd, Int.reduceSub, Int.reduceMul, Int.reduceNeg, Int.reduceEq, Int.reduceNe, wrap64, false_imp_iff, true_imp_iff, eq_self, decide_true, decide_false, Int.cast_ofNat_Int,  true_and, and_true, false_and, and_false, imp_self, implies_true, List.getElem?_cons_zero, List.getElem?_cons_succ, List.length_cons, List.length_nil, List.append_nil, List.nil_append, List.cons_append, List.take_succ_cons, List.take_zero, List.drop_succ_cons, List.drop_zero, List.take_nil, List.drop_nil, List.reverse_cons, List.reverse_nil, List.map_cons, List.map_nil, Nat.zero_add, Nat.add_zero, frOf, den_nil, den_o0, ↓gd_tt, ↓gd_ff, ↓gd_tf, ↓gd_ft, gd_any, den_o1, kont_app, den_g, setv, Bool.not_true, Bool.not_false, den_skip, den_reg, den_regD, den_regP, den_A, den_regW, den_W, den_bad, evW, baseD, stBlk, touch, clear, untouched, updsW, List.all_cons, List.all_nil, List.contains_cons, List.contains_nil, Bool.not_true, Bool.not_false, Bool.or_false, Bool.or_self, Bool.false_or, Bool.true_or, Bool.or_true, den_seq, den_cond, den_block, den_exit, den_ret, den_b, den_xb, den_xo, den_xc, den_xu, den_rb, den_ro, den_rc, den_ru, den_u, den_loopU, finP_r, finP_n, finP_x, ↓reduceIte, ↓e_box, ↓e_build, ↓e_bslice, ↓e_load, ↓e_store, ↓e_idxS, ↓e_idxV, ↓e_idxT, ↓e_fieldV, ↓e_eqv, ↓e_isNil, ↓e_b2s, ↓e_slcS, ↓e_arrAt, ↓e_ext, ↓e_app, ↓e_copy, ↓e_mv, ↓e_pick, ↓e_new, ↓e_nilc, ↓e_fld, ↓e_idxA, ↓e_bin, ↓e_eqb, ↓e_un, ↓e_conv, ↓e_strS, ↓e_s2b, ↓e_mkfn, ↓e_mksl, ↓e_slcA, ↓e_slcT, ↓e_call, ↓e_callp, ↓e_callv, ↓e_len, ↓e_lenA, ↓e_mx, ↓e_mn, ↓u_onInt, ↓u_onBool, ↓u_onOpt0, ↓u_onOpt1, ↓u_binV, ↓u_srcOf, ↓u_srcSl, ↓binI, ↓binS, ↓fillE, ↓evRes, evA, Opd.ev, Sx.get, put, putO, del, dels, frD, memD, pickD, kills, views, newer, rd, rm, upd, splice, SV.cells?, SV.one, retOf]
        exact ⟨⟨i + 1, n, ⟨2, t1, a1, b1, c1', d1⟩⟩, ⟨[(0, 0), (1, 0)], by simp [hren, EntM, compat, apartM, keysBelow, frEnt, geto, eta, idHs, rd, SV.ren, SV.renL, Option.getD_some, Option.getD_none, List.getElem?_cons_zero, List.getElem?_cons_succ, List.getElem?_nil, List.length_cons, List.length_nil, Nat.zero_add, Nat.add_zero, Nat.reduceAdd, Nat.reduceSub, Nat.reduceEqDiff, Nat.reduceLT, Nat.reduceLeDiff, ↓reduceIte, Kind.isOwn, List.take_succ_cons, List.take_zero, List.nil_append, List.cons_append, List.append_nil, List.take_nil, and_self, and_true, true_and, exists_eq_left', Option.some.injEq, Blk.mk.injEq, Kind.own.injEq, List.drop_zero, List.take_length, Nat.le_refl, ne_eq, not_false_eq_true, implies_true, List.forall_mem_cons, List.not_mem_nil, false_imp_iff, Bool.or_false, Bool.false_or, Bool.or_self, Bool.true_or, Bool.or_true, forall_const, reduceCtorEq, List.mem_cons, or_false, forall_eq_or_imp, forall_eq, Nat.succ_ne_self, exists_eq_left, Option.some_inj], by simp [hren, EntM, compat, apartM, keysBelow, frEnt, geto, eta, idHs, rd, SV.ren, SV.renL, Option.getD_some, Option.getD_none, List.getElem?_cons_zero, List.getElem?_cons_succ, List.getElem?_nil, List.length_cons, List.length_nil, Nat.zero_add, Nat.add_zero, Nat.reduceAdd, Nat.reduceSub, Nat.reduceEqDiff, Nat.reduceLT, Nat.reduceLeDiff, ↓reduceIte, Kind.isOwn, List.take_succ_cons, List.take_zero, List.nil_append, List.cons_append, List.append_nil, List.take_nil, and_self, and_true, true_and, exists_eq_left', Option.some.injEq, Blk.mk.injEq, Kind.own.injEq, List.drop_zero, List.take_length, Nat.le_refl, ne_eq, not_false_eq_true, implies_true, List.forall_mem_cons, List.not_mem_nil, false_imp_iff, Bool.or_false, Bool.false_or, Bool.or_self, Bool.true_or, Bool.or_true, forall_const, reduceCtorEq, List.mem_cons, or_false, forall_eq_or_imp, forall_eq, Nat.succ_ne_self, exists_eq_left, Option.some_inj]⟩, ⟨by simp only; omega, S3⟩, by simp only; omega⟩
    · have ilt : ¬ (i : Int) < (len : Int) := by omega
      have hG' := hG
      obtain ⟨_, g2, g3, g4, _⟩ := hG'
      have w1 : IntKind.i64.wrap (now + 240) = now + 240 := wrap64 (by omega) (by omega)
      obtain ⟨E1, E2, E3, E4⟩ := glit_end (by omega) hG
      generalize hs1 : passS s (now + 240) = p at *
      obtain ⟨m, t, a, b, c, d⟩ := s
      obtain ⟨m1, t1, a1, b1, c1', d1⟩ := p
      have hw := (sumW_ok E4).trans E3
      simp only at E2 hw
      subst E2
      simp (config := { maxSteps := 10000000 }) only [ilt, w1, E1, hs1, hw, St.sv, tab8, tab7, tab5, tab4, tab2, ↓g9, ↓g18, ↓g19, ↓g10, ↓g20, ↓g21, SV.flatL, SV.flat, Bool.and_true, Bool.and_self, Bool.true_and, beq_self_eq_true, Int.reduceGE, Int.reduceGT, ↓u_callAnd, Blk.mk.injEq, List.cons.injEq, SV.int.injEq, SV.bool.injEq, SV.tup.injEq, SV.agg.injEq, and_self, undef, Int.reduceBNe, Int.reduceBEq, Nat.reduceBNe, Nat.reduceBEq, ↓u_callX, lookF, setv, finO_r, finO_n, finO_x, again_n, again_x, again_r, lookT, eqPat, eqTag, reduceCtorEq, Nat.reduceEqDiff, Nat.reduceAdd, Nat.reduceSub, Nat.reduceMul, Nat.reduceDiv, Nat.reduceLeDiff, Nat.reduceLT, Int.reduceToNat, Int.reduceLT, Int.reduceLE, Int.reduceAdd, Int.reduceSub, Int.reduceMul, Int.reduceNeg, Int.reduceEq, Int.reduceNe, wrap64, false_imp_iff, true_imp_iff, eq_self, decide_true, decide_false, Int.cast_ofNat_Int,  true_and, and_true, false_and, and_false, imp_self, implies_true, List.getElem?_cons_zero, List.getElem?_cons_succ, List.length_cons, List.length_nil, List.append_nil, List.nil_append, List.cons_append, List.take_succ_cons, List.take_zero, List.drop_succ_cons, List.drop_zero, List.take_nil, List.drop_nil, List.reverse_cons, List.reverse_nil, List.map_cons, List.map_nil, Nat.zero_add, Nat.add_zero, frOf, den_nil, den_o0, ↓gd_tt, ↓gd_ff, ↓gd_tf, ↓gd_ft, gd_any, den_o1, kont_app, den_g, setv, Bool.not_true, Bool.not_false, den_skip, den_reg, den_regD, den_regP, den_A, den_regW, den_W, den_bad, evW, baseD, stBlk, touch, clear, untouched, updsW, List.all_cons, List.all_nil, List.contains_cons, List.contains_nil, Bool.not_true, Bool.not_false, Bool.or_false, Bool.or_self, Bool.false_or, Bool.true_or, Bool.or_true, den_seq, den_cond, den_block, den_exit, den_ret, den_b, den_xb, den_xo, den_xc, den_xu, den_rb, den_ro, den_rc, den_ru, den_u, den_loopU, finP_r, finP_n, finP_x, ↓reduceIte, ↓e_box, ↓e_build, ↓e_bslice, ↓e_load, ↓e_store, ↓e_idxS, ↓e_idxV, ↓e_idxT, ↓e_fieldV, ↓e_eqv, ↓e_isNil, ↓e_b2s, ↓e_slcS, ↓e_arrAt, ↓e_ext, ↓e_app, ↓e_copy, ↓e_mv, ↓e_pick, ↓e_new, ↓e_nilc, ↓e_fld, ↓e_idxA, ↓e_bin, ↓e_eqb, ↓e_un, ↓e_conv, ↓e_strS, ↓e_s2b, ↓e_mkfn, ↓e_mksl, ↓e_slcA, ↓e_slcT, ↓e_call, ↓e_callp, ↓e_callv, ↓e_len, ↓e_lenA, ↓e_mx, ↓e_mn, ↓u_onInt, ↓u_onBool, ↓u_onOpt0, ↓u_onOpt1, ↓u_binV, ↓u_srcOf, ↓u_srcSl, ↓binI, ↓binS, ↓fillE, ↓evRes, evA, Opd.ev, Sx.get, put, putO, del, dels, frD, memD, pickD, kills, views, newer, rd, rm, upd, splice, SV.cells?, SV.one, retOf]
end Go.Proofs.YtflkcganpgjkkaaDoor
