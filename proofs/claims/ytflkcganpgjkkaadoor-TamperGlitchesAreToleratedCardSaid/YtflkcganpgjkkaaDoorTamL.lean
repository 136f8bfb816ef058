/- The laws TamperNeverCalmsDown and TamperTimeAdds of layer 32: each computes true. -/
import Derived.Test.YtflkcganpgjkkaaDoorTamJ
namespace Go.Proofs.YtflkcganpgjkkaaDoor
open Go Go.Sx Sf
set_option maxRecDepth 100000
set_option linter.unusedSimpArgs false
set_option linter.unusedVariables false

/- plain laws -/
theorem esc_ge {m T s l : Int} : m ≤ esc m T s l := by unfold esc; repeat' split <;> omega
theorem esc_le {m T s l : Int} (h : m ≤ 5) : esc m T s l ≤ 5 := by unfold esc escq; repeat' split <;> omega
theorem pM_cases {m a b c d k : Int} : (pM m a b c d k = m) ∨ (m = 2 ∧ pM m a b c d k = 1 ∧ dec a k + dec b k + dec c k + dec d k = 0) := by
  unfold pM; split <;> omega
theorem ok_iff {s : St} : s.ok = true ↔ (1 ≤ s.m ∧ s.m ≤ 5) ∧ (0 ≤ s.t ∧ s.t ≤ 1099511627776) ∧ Sc s.a s.b s.c s.d := by
  unfold St.ok validB Sc; simp only [decide_eq_true_eq]; omega
theorem pass_ok {s : St} {n : Int} (h : s.ok = true) (hn : timeB n = true) (hb : ¬ n < s.t) : (s.pass n).ok = true := by
  obtain ⟨h1, h2, h3⟩ := ok_iff.1 h
  have hT := time_Ti h2.1 hn hb
  obtain ⟨k1, k2, k3⟩ := kk_range hT
  refine ok_iff.2 ⟨?_, ?_, dec_Sc h3 k1⟩
  · simp only [St.pass]
    rcases pM_cases (m := s.m) (a := s.a) (b := s.b) (c := s.c) (d := s.d) (k := kk s.t n) with e | e <;> omega
  · simp only [St.pass]
    obtain ⟨q1, q2, q3⟩ := hT
    omega
theorem passS_ok {s : St} {n : Int} (h : err s n = 0) : (passS s n).ok = true := by
  obtain ⟨h1, h2, h3⟩ := err_ok h
  unfold passS
  rw [if_pos h]
  split
  · exact pass_ok h1 h2 h3
  · exact h1
theorem errS_err {s : St} {e n : Int} (h : errS s e n = 0) : err s n = 0 ∧ knownB e = true := by
  unfold errS at h
  split at h
  · rename_i h1
    split at h
    · rename_i h2; exact ⟨h1, h2⟩
    · cases h
  · rename_i h1; exact absurd h h1
theorem stepS_ok {s : St} {e l n : Int} (h : errS s e n = 0) : (stepS s e l n).ok = true := by
  obtain ⟨h0, hk⟩ := errS_err h
  obtain ⟨h1, h2, h3⟩ := err_ok h0
  unfold stepS
  rw [if_pos h]
  split
  · obtain ⟨g1, g2, g3⟩ := ok_iff.1 (pass_ok h1 h2 h3)
    refine ok_iff.2 ⟨?_, g2, cnt_Sc g3⟩
    simp only [St.esc, St.count]
    have a1 := esc_ge (m := (s.pass n).m) (T := St.sum ⟨(s.pass n).m, (s.pass n).t, cnt 1 (s.pass n).a e l, cnt 2 (s.pass n).b e l, cnt 3 (s.pass n).c e l, cnt 4 (s.pass n).d e l⟩) (s := e) (l := l)
    have a2 := esc_le (m := (s.pass n).m) (T := St.sum ⟨(s.pass n).m, (s.pass n).t, cnt 1 (s.pass n).a e l, cnt 2 (s.pass n).b e l, cnt 3 (s.pass n).c e l, cnt 4 (s.pass n).d e l⟩) (s := e) (l := l) g1.2
    omega
  · exact h1
/-- the mode does not fall, but from suspicious to normal, with nothing left -/
def Calm (s p : St) : Prop := s.m ≤ p.m ∨ (¬ s.m ≤ p.m ∧ s.m = 2 ∧ p.m = 1 ∧ p.sum = 0)
theorem passS_calm {s : St} {n : Int} (h : err s n = 0) : (passS s n).m = s.m ∨ ((passS s n).m ≠ s.m ∧ s.m = 2 ∧ (passS s n).m = 1 ∧ (passS s n).sum = 0) := by
  unfold passS
  rw [if_pos h]
  split
  · rcases pM_cases (m := s.m) (a := s.a) (b := s.b) (c := s.c) (d := s.d) (k := kk s.t n) with e | e
    · exact .inl e
    · refine .inr ⟨?_, e.1, e.2.1, e.2.2⟩
      simp only [St.pass]; omega
  · exact .inl rfl
theorem cnt_none {j a s l : Int} (h : alarmB s l = false) : cnt j a s l = a := by unfold cnt; rw [if_neg (by simp [h])]
theorem esc_none {m T s l : Int} (h : alarmB s l = false) : esc m T s l = m := by unfold esc; rw [if_neg (by simp [h])]
theorem wgt_pos {s l : Int} (h : alarmB s l = true) (h1 : s ≠ 1) : 1 ≤ wgt s := by unfold wgt; repeat' split <;> omega
theorem stepS_calm {s : St} {e l n : Int} (h : errS s e n = 0) : Calm s (stepS s e l n) := by
  obtain ⟨h0, hk⟩ := errS_err h
  obtain ⟨h1, h2, h3⟩ := err_ok h0
  unfold stepS
  rw [if_pos h]
  split
  · rename_i hm
    obtain ⟨g1, g2, g3⟩ := ok_iff.1 (pass_ok h1 h2 h3)
    have hp := pM_cases (m := s.m) (a := s.a) (b := s.b) (c := s.c) (d := s.d) (k := kk s.t n)
    cases hal : alarmB e l with
    | false =>
      have e1 : ((s.pass n).count e l).esc e l = s.pass n := by
        simp only [St.esc, St.count, cnt_none hal, esc_none hal]
      rw [e1]
      rcases hp with e | e
      · exact .inl (by simp only [St.pass]; omega)
      · exact .inr ⟨by simp only [St.pass]; omega, e.1, e.2.1, e.2.2⟩
    | true =>
      refine .inl ?_
      simp only [St.esc, St.count]
      generalize hT : St.sum _ = T
      have ge := esc_ge (m := (s.pass n).m) (T := T) (s := e) (l := l)
      rcases hp with e0 | e0
      · have : (s.pass n).m = s.m := e0
        omega
      · -- suspicious became normal, and the alarm makes it suspicious again
        have hm1 : (s.pass n).m = 1 := e0.2.1
        by_cases he : e = 1
        · have : esc (s.pass n).m T e l = 4 := by
            unfold esc escq; rw [if_pos hal, if_pos (Or.inl he), hm1]; rfl
          omega
        · have hs1 : 1 ≤ T := by
            obtain ⟨q1, q2, q3, q4⟩ := g3
            have hw := wgt_pos hal he
            have hc : e = 2 ∨ e = 3 ∨ e = 4 := by
              simp only [knownB, decide_eq_true_eq] at hk; omega
            rw [← hT]
            simp only [St.sum, cnt, hal, and_true]
            rcases hc with rfl | rfl | rfl <;> simp <;> split <;> omega
          have : 2 ≤ esc (s.pass n).m T e l := by
            unfold esc escq; rw [if_pos hal]; repeat' split <;> omega
          omega
  · exact .inl (Int.le_refl _)
theorem unl_ok {s : St} {n : Int} (h : unlE s n = 0) : s.m = 3 ∧ (unlS s n).m = 1 ∧ (unlS s n).sum = 0 ∧ (unlS s n).ok = true := by
  have h' := h
  unfold unlE at h'
  split at h'
  · rename_i h0
    split at h'
    · cases h'
    · split at h'
      · rename_i h3
        split at h'
        · rename_i h4
          unfold unlS
          rw [if_pos h]
          have hok := passS_ok h0
          obtain ⟨g1, g2, g3⟩ := ok_iff.1 hok
          refine ⟨?_, rfl, h4, ok_iff.2 ⟨⟨by simp, by simp⟩, g2, g3⟩⟩
          rcases passS_calm h0 with e | e <;> omega
        · cases h'
      · cases h'
  · rename_i h0; exact absurd h' h0
theorem sumW_ok {p : St} (h : p.ok = true) : sumW p.a p.b p.c p.d = p.sum := sumW_eq (ok_iff.1 h).2.2

set_option maxHeartbeats 4000000 in
theorem f4 (s : St) (e l n : Int) : Fun Tryd.prog tS 4 [s.sv, .agg [I e, I l], I n] [] 0 (.bool true) [] 0 := by
  refine fun_pure (some 5) (callX tab8) (callX_ok tab8_ok) chk4 (show 3 ≤ 124 by decide) (fun _ => rfl) ?_
  unfold sf4
  cases hok : s.ok with
  | false =>
    obtain ⟨m, t, a, b, c, d⟩ := s
    simp only [St.ok] at hok
    simp (config := { maxSteps := 10000000 }) only [hok, St.sv, tab8, tab7, tab5, tab4, tab2, ↓g9, ↓g18, SV.flatL, SV.flat, Bool.and_true, Bool.and_self, Bool.true_and, beq_self_eq_true, Int.reduceGE, Int.reduceGT, ↓u_callAnd, Blk.mk.injEq, List.cons.injEq, SV.int.injEq, SV.bool.injEq, SV.tup.injEq, SV.agg.injEq, and_self, undef, Int.reduceBNe, Int.reduceBEq, Nat.reduceBNe, Nat.reduceBEq, ↓u_callX, lookF, setv, finO_r, finO_n, finO_x, again_n, again_x, again_r, lookT, eqPat, eqTag, reduceCtorEq, Nat.reduceEqDiff, Nat.reduceAdd, Nat.reduceSub, Nat.reduceMul, Nat.reduceDiv, Nat.reduceLeDiff, Nat.reduceLT, Int.reduceToNat, Int.reduceLT, Int.reduceLE, Int.reduceAdd, Int.reduceSub, Int.reduceMul, Int.reduceNeg, Int.reduceEq, Int.reduceNe, wrap64, false_imp_iff, true_imp_iff, eq_self, decide_true, decide_false, Int.cast_ofNat_Int,  true_and, and_true, false_and, and_false, imp_self, implies_true, List.getElem?_cons_zero, List.getElem?_cons_succ, List.length_cons, List.length_nil, List.append_nil, List.nil_append, List.cons_append, List.take_succ_cons, List.take_zero, List.drop_succ_cons, List.drop_zero, List.take_nil, List.drop_nil, List.reverse_cons, List.reverse_nil, List.map_cons, List.map_nil, Nat.zero_add, Nat.add_zero, frOf, den_nil, den_o0, ↓gd_tt, ↓gd_ff, ↓gd_tf, ↓gd_ft, gd_any, den_o1, kont_app, den_g, setv, Bool.not_true, Bool.not_false, den_skip, den_reg, den_regD, den_regP, den_A, den_seq, den_cond, den_block, den_exit, den_ret, den_b, den_xb, den_xo, den_xc, den_xu, den_rb, den_ro, den_rc, den_ru, den_u, den_loopU, finP_r, finP_n, finP_x, ↓reduceIte, ↓e_box, ↓e_build, ↓e_bslice, ↓e_load, ↓e_store, ↓e_idxS, ↓e_idxV, ↓e_idxT, ↓e_fieldV, ↓e_eqv, ↓e_isNil, ↓e_b2s, ↓e_slcS, ↓e_arrAt, ↓e_ext, ↓e_app, ↓e_copy, ↓e_mv, ↓e_pick, ↓e_new, ↓e_nilc, ↓e_fld, ↓e_idxA, ↓e_bin, ↓e_eqb, ↓e_un, ↓e_conv, ↓e_strS, ↓e_s2b, ↓e_mkfn, ↓e_mksl, ↓e_slcA, ↓e_slcT, ↓e_call, ↓e_callp, ↓e_callv, ↓e_len, ↓e_lenA, ↓e_mx, ↓e_mn, ↓u_onInt, ↓u_onBool, ↓u_onOpt0, ↓u_onOpt1, ↓u_binV, ↓u_srcOf, ↓u_srcSl, ↓binI, ↓binS, ↓fillE, ↓evRes, evA, Opd.ev, Sx.get, put, putO, del, dels, frD, memD, pickD, kills, views, newer, rd, rm, upd, splice, SV.cells?, SV.one, retOf]
  | true =>
    have F1 := fun h => And.intro (stepS_ok (s := s) (e := e) (l := l) (n := n) h) (stepS_calm (l := l) h)
    have F2 := fun h => And.intro (passS_ok (s := s) (n := n) h) (passS_calm h)
    have F3 := fun h => unl_ok (s := s) (n := n) h
    obtain ⟨m, t, a, b, c, d⟩ := s
    generalize h1 : stepS ⟨m, t, a, b, c, d⟩ e l n = p1 at *
    generalize h2 : errS ⟨m, t, a, b, c, d⟩ e n = e1 at *
    generalize h3 : passS ⟨m, t, a, b, c, d⟩ n = p2 at *
    generalize h4 : err ⟨m, t, a, b, c, d⟩ n = e2 at *
    generalize h5 : unlS ⟨m, t, a, b, c, d⟩ n = p3 at *
    generalize h6 : unlE ⟨m, t, a, b, c, d⟩ n = e3 at *
    have w1 := fun h => sumW_ok (F1 h).1
    have w2 := fun h => sumW_ok (F2 h).1
    have w3 := fun h => sumW_ok (F3 h).2.2.2
    obtain ⟨m1, t1, a1, b1, c1, d1⟩ := p1
    obtain ⟨m2, t2, a2, b2, c2, d2⟩ := p2
    obtain ⟨m3, t3, a3, b3, c3, d3⟩ := p3
    simp only [St.ok, Calm, St.sum] at hok F1 F2 F3 w1 w2 w3
    have P1 : (e1 != 0) = true ∨ ((e1 != 0) = false ∧ validB m1 t1 a1 b1 c1 d1 = true ∧ decide (m ≤ m1) = true) ∨
        ((e1 != 0) = false ∧ validB m1 t1 a1 b1 c1 d1 = true ∧ decide (m ≤ m1) = false ∧ (m == 2) = true ∧ (m1 == 1) = true ∧ sumW a1 b1 c1 d1 = 0) := by
      by_cases h : e1 = 0
      · obtain ⟨g1, g2 | g2⟩ := F1 h
        · exact .inr (.inl ⟨by simp [h], g1, by simpa using g2⟩)
        · exact .inr (.inr ⟨by simp [h], g1, by simpa using g2.1, by simp [g2.2.1], by simp [g2.2.2.1], (w1 h).trans g2.2.2.2⟩)
      · exact .inl (by simp [h])
    have P2 : (e2 != 0) = true ∨ ((e2 != 0) = false ∧ validB m2 t2 a2 b2 c2 d2 = true ∧ (m2 == m) = true) ∨
        ((e2 != 0) = false ∧ validB m2 t2 a2 b2 c2 d2 = true ∧ (m2 == m) = false ∧ (m == 2) = true ∧ (m2 == 1) = true ∧ sumW a2 b2 c2 d2 = 0) := by
      by_cases h : e2 = 0
      · obtain ⟨g1, g2 | g2⟩ := F2 h
        · exact .inr (.inl ⟨by simp [h], g1, by simp [g2]⟩)
        · exact .inr (.inr ⟨by simp [h], g1, by simp [g2.1], by simp [g2.2.1], by simp [g2.2.2.1], (w2 h).trans g2.2.2.2⟩)
      · exact .inl (by simp [h])
    have P3 : (e3 != 0) = true ∨ ((e3 != 0) = false ∧ (m == 3) = true ∧ (m3 == 1) = true ∧ sumW a3 b3 c3 d3 = 0) := by
      by_cases h : e3 = 0
      · obtain ⟨g1, g2, g3, g4⟩ := F3 h
        exact .inr ⟨by simp [h], by simp [g1], by simp [g2], (w3 h).trans g3⟩
      · exact .inl (by simp [h])
    clear F1 F2 F3 w1 w2 w3
    rcases P1 with p1 | ⟨p1, p2, p3⟩ | ⟨p1, p2, p3, p4, p5, p6⟩ <;> rcases P2 with q1 | ⟨q1, q2, q3⟩ | ⟨q1, q2, q3, q4, q5, q6⟩ <;> rcases P3 with r1 | ⟨r1, r2, r3, r4⟩ <;>
    simp (config := { maxSteps := 10000000 }) only [hok, h1, h2, h3, h4, h5, h6, *, ge_iff_le, St.sv, tab8, tab7, tab5, tab4, tab2, ↓g9, ↓g10, ↓g18, ↓g19, ↓g20, ↓g21, SV.flatL, SV.flat, Bool.and_true, Bool.and_self, Bool.true_and, beq_self_eq_true, Int.reduceGE, Int.reduceGT, ↓u_callAnd, Blk.mk.injEq, List.cons.injEq, SV.int.injEq, SV.bool.injEq, SV.tup.injEq, SV.agg.injEq, and_self, undef, Int.reduceBNe, Int.reduceBEq, Nat.reduceBNe, Nat.reduceBEq, ↓u_callX, lookF, setv, finO_r, finO_n, finO_x, again_n, again_x, again_r, lookT, eqPat, eqTag, reduceCtorEq, Nat.reduceEqDiff, Nat.reduceAdd, Nat.reduceSub, Nat.reduceMul, Nat.reduceDiv, Nat.reduceLeDiff, Nat.reduceLT, Int.reduceToNat, Int.reduceLT, Int.reduceLE, Int.reduceAdd, Int.reduceSub, Int.reduceMul, Int.reduceNeg, Int.reduceEq, Int.reduceNe, wrap64, false_imp_iff, true_imp_iff, eq_self, decide_true, decide_false, Int.cast_ofNat_Int,  true_and, and_true, false_and, and_false, imp_self, implies_true, List.getElem?_cons_zero, List.getElem?_cons_succ, List.length_cons, List.length_nil, List.append_nil, List.nil_append, List.cons_append, List.take_succ_cons, List.take_zero, List.drop_succ_cons, List.drop_zero, List.take_nil, List.drop_nil, List.reverse_cons, List.reverse_nil, List.map_cons, List.map_nil, Nat.zero_add, Nat.add_zero, frOf, den_nil, den_o0, ↓gd_tt, ↓gd_ff, ↓gd_tf, ↓gd_ft, gd_any, den_o1, kont_app, den_g, setv, Bool.not_true, Bool.not_false, den_skip, den_reg, den_regD, den_regP, den_A, den_seq, den_cond, den_block, den_exit, den_ret, den_b, den_xb, den_xo, den_xc, den_xu, den_rb, den_ro, den_rc, den_ru, den_u, den_loopU, finP_r, finP_n, finP_x, ↓reduceIte, ↓e_box, ↓e_build, ↓e_bslice, ↓e_load, ↓e_store, ↓e_idxS, ↓e_idxV, ↓e_idxT, ↓e_fieldV, ↓e_eqv, ↓e_isNil, ↓e_b2s, ↓e_slcS, ↓e_arrAt, ↓e_ext, ↓e_app, ↓e_copy, ↓e_mv, ↓e_pick, ↓e_new, ↓e_nilc, ↓e_fld, ↓e_idxA, ↓e_bin, ↓e_eqb, ↓e_un, ↓e_conv, ↓e_strS, ↓e_s2b, ↓e_mkfn, ↓e_mksl, ↓e_slcA, ↓e_slcT, ↓e_call, ↓e_callp, ↓e_callv, ↓e_len, ↓e_lenA, ↓e_mx, ↓e_mn, ↓u_onInt, ↓u_onBool, ↓u_onOpt0, ↓u_onOpt1, ↓u_binV, ↓u_srcOf, ↓u_srcSl, ↓binI, ↓binS, ↓fillE, ↓evRes, evA, Opd.ev, Sx.get, put, putO, del, dels, frD, memD, pickD, kills, views, newer, rd, rm, upd, splice, SV.cells?, SV.one, retOf]
end Go.Proofs.YtflkcganpgjkkaaDoor
