/- The proof, part Qg: the texts MemD, SfB, SfC, SanA, HasA, HasB, HasC, HasD, HasE, HasF, SanT. -/
import Derived.Test.YtkfbkooobfepeaaDoorQf
/- Clone and Replace of members. -/
namespace Go.Sx
open Go
/-- a slice without elements that is nil or not -/
theorem fun_nil {P : Program} {T : List (Nat × List SV)} {f : FuncId} {s : Nat} {e : TypeId} (F1 : Fun P T f [.val (.slice none 0 0)] [] 0 (.val (.slice none 0 0)) [] 0)
    (F2 : ∀ a c, Fun P T f [.val (.slice (some a) 0 c)] [] 0 (.slc 0 0 s 0 none) [(0, ⟨.own e, []⟩)] 1) :
    Fun P T f [.slc 0 0 s 0 none] [(0, ⟨.view, []⟩)] 1 (.slc 1 0 s 0 none) [(1, ⟨.own e, []⟩)] 2 := by
  refine ⟨F1.fok, by decide, fun ρ w vals R X hv => ?_⟩
  have hnv : ∀ b, ¬ ownsB ρ [(0, (⟨.view, []⟩ : Blk))] b := by
    rintro b ⟨i, B, L, h1, h2, _⟩
    simp at h1
    obtain ⟨rfl, rfl⟩ := h1
    exact h2 rfl
  have hn0 : ∀ b, ¬ ownsB (fun _ => none) [] b := by
    rintro b ⟨i, B, L, h1, _⟩; simp at h1
  have R0 : MemOk (ctxOf P T (fun _ => none) [] 0 w) (fun _ => none) [] 0 w :=
    ⟨fun i B h => by simp at h, fun i B j B' L L' b h => by simp at h, fun i _ => rfl, fun i B L b h => by simp at h, Nat.le_refl _, fun _ _ _ => rfl, fun _ _ => rfl, rfl, rfl⟩
  have X0 : CtxOk (ctxOf P T (fun _ => none) [] 0 w) := ⟨X.tab, fun g cs _ ho => hn0 g ho⟩
  simp only [SV.isL] at hv
  obtain ⟨x, ys, rfl, hx, rfl⟩ := hv
  obtain ⟨L, A, e1, e2, e3⟩ := by simpa only [SV.is] using hx
  obtain ⟨L', f1, f2⟩ := R.blk 0 _ List.mem_cons_self
  rw [e1] at f1; cases f1
  have fr1 : ρ 1 = none := R.fresh 1 (Nat.le_refl _)
  have done : ∀ (w' : World) (L1 : Loc) (hb : (⟨.own e, []⟩ : Blk).okAt (ρ.set 1 L1) w' L1) (hsz : w.heap.size ≤ w'.heap.size) (hfr : ∀ b, b < w.heap.size → w'.heap[b]? = w.heap[b]?) (hsd : w'.os = w.os ∧ w'.output = w.output) (hw : ∀ b, L1.blk = some b → w.heap.size ≤ b),
      MemOk (ctxOf P T ρ [(0, ⟨.view, []⟩)] 1 w) (ρ.set 1 L1) [(1, ⟨.own e, []⟩)] 2 w' := by
    intro w' L1 hb hsz hfr hsd hw
    have s1 : (ρ.set 1 L1) 1 = some L1 := by unfold Env.set; rw [if_pos rfl]
    refine ⟨?_, ?_, ?_, ?_, hsz, fun b h _ => hfr b h, ?_, hsd⟩
    · intro i B hi; simp at hi; obtain ⟨rfl, rfl⟩ := hi; exact ⟨L1, s1, hb⟩
    · intro i B j B' L L' b hi hj hij; simp at hi hj; exact absurd (hi.1.trans hj.1.symm) hij
    · intro i hi; unfold Env.set; rw [if_neg (by omega)]; exact R.fresh i (by omega)
    · intro i B L b hi ho hL hbk; simp at hi; obtain ⟨rfl, rfl⟩ := hi
      rw [s1] at hL; cases hL
      exact .inl (hw b hbk)
    · intro i hi
      have : i < 1 := hi
      unfold Env.set; rw [if_neg (by omega)]; rfl
  have hle : ∀ L1, ρ.le (ρ.set 1 L1) := fun L1 => Env.le_set fr1
  cases A with
  | none =>
    have hb : L.blk = none := by
      rcases e3 with h | h
      · cases hq : L.blk with
        | none => rfl
        | some b => rw [hq] at h; cases h
      · exact h.2.2.1 rfl
    have hc : L.cap = 0 := by unfold Blk.okAt at f2; rw [hb] at f2; exact f2.2
    have ex : x = .slice none 0 0 := by rw [e2]; simp [hc]
    refine (F1.run (fun _ => none) w [x] R0 X0 (by simp only [SV.isL]; exact ⟨x, [], rfl, by simp only [SV.is]; exact ex, rfl⟩)).mono ?_
    rintro e0 w' ⟨y, ρ1, rfl, _, h2, h3⟩
    have hy : y = .slice none 0 0 := by simpa only [SV.is] using h2
    refine ⟨y, ρ.set 1 ⟨none, 0, 0⟩, rfl, hle _, ?_, done w' ⟨none, 0, 0⟩ (by unfold Blk.okAt; exact ⟨rfl, rfl⟩) h3.size (fun b hb => h3.frame b hb (hn0 b)) h3.side (fun b hb => by cases hb)⟩
    simp only [SV.is]
    refine ⟨⟨none, 0, 0⟩, none, by unfold Env.set; rw [if_pos rfl], by rw [hy]; simp, .inl rfl⟩
  | some a =>
    have ex : x = .slice (some a) 0 ((none : Option Nat).getD ((L.cap - 0) / s)) := e2
    refine (F2 a _).run (fun _ => none) w [x] R0 X0 (by simp only [SV.isL]; exact ⟨x, [], rfl, by simp only [SV.is]; exact ex, rfl⟩) |>.mono ?_
    rintro e0 w' ⟨y, ρ1, rfl, _, h2, h3⟩
    obtain ⟨L1, A1, g1, g2, g3⟩ := by simpa only [SV.is] using h2
    obtain ⟨L2, k1, k2⟩ := h3.blk 0 _ List.mem_cons_self
    rw [g1] at k1; cases k1
    refine ⟨y, ρ.set 1 L1, rfl, hle _, ?_, done w' L1 ?_ h3.size (fun b hb => h3.frame b hb (hn0 b)) h3.side ?_⟩
    · simp only [SV.is]
      exact ⟨L1, A1, by unfold Env.set; rw [if_pos rfl], g2, g3⟩
    · unfold Blk.okAt at k2 ⊢
      cases hb : L1.blk with
      | none => rw [hb] at k2; exact k2
      | some b =>
        rw [hb] at k2
        exact ⟨k2.1, fun j v hj => by simp at hj, k2.2.2⟩
    · intro b hb
      rcases h3.wrt 0 _ L1 b List.mem_cons_self (own_of rfl) g1 hb with q | q
      · exact q
      · exact absurd q (hn0 b)
end Go.Sx
namespace Go.Proofs.YtkfbkooobfepeaaDoor
open Go Go.Sx Sf
set_option maxRecDepth 100000
set_option linter.unusedSimpArgs false
set_option linter.unusedVariables false

variable {tS : List (Nat × List SV)}
theorem f29e : Fun Tryd.prog tS 29 [.slc 0 0 18 0 none] [(0, ⟨.view, []⟩)] 1 (.slc 1 0 18 0 none) [(1, ⟨.own 47, []⟩)] 2 := by
  refine fun_nil ?_ ?_
  · refine fun_any none cF cF_ok chk29 (show 1 ≤ 8 by decide) (by decide) ?_
    unfold sf29
    simp (config := { maxSteps := 1000000 }) only [SV.flatL, SV.flat, Bool.and_true, Bool.and_self, Bool.true_and, beq_self_eq_true, Int.reduceGE, Int.reduceGT, ↓u_callAnd, Blk.mk.injEq, List.cons.injEq, SV.int.injEq, SV.bool.injEq, SV.tup.injEq, SV.agg.injEq, and_self, undef, Int.reduceBNe, Int.reduceBEq, Nat.reduceBNe, Nat.reduceBEq, ↓u_callX, lookF, setv, finO_r, finO_n, finO_x, again_n, again_x, again_r, lookT, eqPat, eqTag, reduceCtorEq, Nat.reduceEqDiff, Nat.reduceAdd, Nat.reduceSub, Nat.reduceMul, Nat.reduceDiv, Nat.reduceLeDiff, Nat.reduceLT, Int.reduceToNat, Int.reduceLT, Int.reduceLE, Int.reduceAdd, Int.reduceSub, Int.reduceMul, Int.reduceNeg, Int.reduceEq, Int.reduceNe, wrap64, false_imp_iff, true_imp_iff, eq_self, decide_true, decide_false, Int.cast_ofNat_Int,  true_and, and_true, false_and, and_false, imp_self, implies_true, List.getElem?_cons_zero, List.getElem?_cons_succ, List.length_cons, List.length_nil, List.append_nil, List.nil_append, List.cons_append, List.take_succ_cons, List.take_zero, List.drop_succ_cons, List.drop_zero, List.take_nil, List.drop_nil, List.reverse_cons, List.reverse_nil, List.map_cons, List.map_nil, Nat.zero_add, Nat.add_zero, frOf, den_nil, den_o0, ↓gd_tt, ↓gd_ff, ↓gd_tf, ↓gd_ft, gd_any, den_o1, kont_app, den_g, setv, Bool.not_true, Bool.not_false, den_skip, den_reg, den_regD, den_regP, den_A, den_regW, den_W, den_bad, evW, baseD, stBlk, touch, clear, untouched, updsW, List.all_cons, List.all_nil, List.contains_cons, List.contains_nil, Bool.not_true, Bool.not_false, Bool.or_false, Bool.or_self, Bool.false_or, Bool.true_or, Bool.or_true, den_seq, den_cond, den_block, den_exit, den_ret, den_b, den_xb, den_xo, den_xc, den_xu, den_rb, den_ro, den_rc, den_ru, den_u, den_loopU, finP_r, finP_n, finP_x, finE_r, finE_n, finE_x, ↓reduceIte, ↓e_box, ↓e_build, ↓e_bslice, ↓e_load, ↓e_store, ↓e_idxS, ↓e_idxV, ↓e_idxT, ↓e_fieldV, ↓e_eqv, ↓e_isNil, ↓e_b2s, ↓e_slcS, ↓e_arrAt, ↓e_ext, ↓e_app, ↓e_copy, ↓e_mv, ↓e_pick, ↓e_new, ↓e_nilc, ↓e_fld, ↓e_idxA, ↓e_bin, ↓e_eqb, ↓e_un, ↓e_conv, ↓e_strS, ↓e_s2b, ↓e_mkfn, ↓e_mksl, ↓e_slcA, ↓e_slcT, ↓e_call, ↓e_callp, ↓e_callv, ↓e_len, ↓e_lenA, ↓e_mx, ↓e_mn, ↓e_mkmap, ↓e_mput, ↓e_mlen, ↓e_mk8, ↓e_capN, ↓e_appZ, ↓u_onInt, ↓u_onBool, ↓u_onOpt0, ↓u_onOpt1, ↓u_binV, ↓u_srcOf, ↓u_srcSl, ↓binI, ↓binS, ↓fillE, ↓evRes, evA, Opd.ev, Sx.get, put, putO, del, dels, frD, memD, pickD, kills, views, newer, rd, rm, upd, splice, keysOf, kvOf, SV.cells?, SV.one, retOf, ↓u_callS, canLW, canV, canC, belowL, apH, apH1, eta, SV.ren, SV.renL, newOwn, targets, rms, Kind.isOwn, ren_bytes, byte_ren, ren_ints, flat_ints, len_ints, List.getElem?_nil, Option.getD_none, Option.getD_some, Nat.sub_zero, not_true_eq_false, not_false_eq_true, Nat.le_refl, take_bytes, take_ints, nlS_0, nlS_1, nlM_0, nlM_1, nlN_0, nlN_1, take_bys1, map_byte, len_bytes, flat_bytes, Int.toNat_natCast, Nat.mul_one, Int.cast_ofNat_Int]
    exact ⟨[], rfl, by simp [EntM, compat, apartM, keysBelow, frEnt, geto, eta, idHs, rd, SV.ren, SV.renL, Option.getD_some, Option.getD_none, List.getElem?_cons_zero, List.getElem?_cons_succ, List.getElem?_nil, List.length_cons, List.length_nil, Nat.zero_add, Nat.add_zero, Nat.reduceAdd, Nat.reduceSub, Nat.reduceEqDiff, Nat.reduceLT, Nat.reduceLeDiff, ↓reduceIte, Kind.isOwn, List.take_succ_cons, List.take_zero, List.nil_append, List.cons_append, List.append_nil, List.take_nil, and_self, and_true, true_and, exists_eq_left', Option.some.injEq, Blk.mk.injEq, Kind.own.injEq, List.drop_zero, List.take_length, Nat.le_refl, ne_eq, not_false_eq_true, implies_true, List.forall_mem_cons, List.not_mem_nil, false_imp_iff, Bool.or_false, Bool.false_or, Bool.or_self, Bool.true_or, Bool.or_true, forall_const, reduceCtorEq, List.mem_cons, or_false, forall_eq_or_imp, forall_eq, Nat.succ_ne_self, exists_eq_left, Option.some_inj, byte_ren, one_byte, ren_bytes, len_bytes, take_bytes, take_ints, nlS_0, nlS_1, nlM_0, nlM_1, nlN_0, nlN_1, take_bys1, ren_ints, len_ints]⟩
  · intro a c
    refine fun_any none cF cF_ok chk29 (show 1 ≤ 8 by decide) (by decide) ?_
    unfold sf29
    simp (config := { maxSteps := 1000000 }) only [SV.flatL, SV.flat, Bool.and_true, Bool.and_self, Bool.true_and, beq_self_eq_true, Int.reduceGE, Int.reduceGT, ↓u_callAnd, Blk.mk.injEq, List.cons.injEq, SV.int.injEq, SV.bool.injEq, SV.tup.injEq, SV.agg.injEq, and_self, undef, Int.reduceBNe, Int.reduceBEq, Nat.reduceBNe, Nat.reduceBEq, ↓u_callX, lookF, setv, finO_r, finO_n, finO_x, again_n, again_x, again_r, lookT, eqPat, eqTag, reduceCtorEq, Nat.reduceEqDiff, Nat.reduceAdd, Nat.reduceSub, Nat.reduceMul, Nat.reduceDiv, Nat.reduceLeDiff, Nat.reduceLT, Int.reduceToNat, Int.reduceLT, Int.reduceLE, Int.reduceAdd, Int.reduceSub, Int.reduceMul, Int.reduceNeg, Int.reduceEq, Int.reduceNe, wrap64, false_imp_iff, true_imp_iff, eq_self, decide_true, decide_false, Int.cast_ofNat_Int,  true_and, and_true, false_and, and_false, imp_self, implies_true, List.getElem?_cons_zero, List.getElem?_cons_succ, List.length_cons, List.length_nil, List.append_nil, List.nil_append, List.cons_append, List.take_succ_cons, List.take_zero, List.drop_succ_cons, List.drop_zero, List.take_nil, List.drop_nil, List.reverse_cons, List.reverse_nil, List.map_cons, List.map_nil, Nat.zero_add, Nat.add_zero, frOf, den_nil, den_o0, ↓gd_tt, ↓gd_ff, ↓gd_tf, ↓gd_ft, gd_any, den_o1, kont_app, den_g, setv, Bool.not_true, Bool.not_false, den_skip, den_reg, den_regD, den_regP, den_A, den_regW, den_W, den_bad, evW, baseD, stBlk, touch, clear, untouched, updsW, List.all_cons, List.all_nil, List.contains_cons, List.contains_nil, Bool.not_true, Bool.not_false, Bool.or_false, Bool.or_self, Bool.false_or, Bool.true_or, Bool.or_true, den_seq, den_cond, den_block, den_exit, den_ret, den_b, den_xb, den_xo, den_xc, den_xu, den_rb, den_ro, den_rc, den_ru, den_u, den_loopU, finP_r, finP_n, finP_x, finE_r, finE_n, finE_x, ↓reduceIte, ↓e_box, ↓e_build, ↓e_bslice, ↓e_load, ↓e_store, ↓e_idxS, ↓e_idxV, ↓e_idxT, ↓e_fieldV, ↓e_eqv, ↓e_isNil, ↓e_b2s, ↓e_slcS, ↓e_arrAt, ↓e_ext, ↓e_app, ↓e_copy, ↓e_mv, ↓e_pick, ↓e_new, ↓e_nilc, ↓e_fld, ↓e_idxA, ↓e_bin, ↓e_eqb, ↓e_un, ↓e_conv, ↓e_strS, ↓e_s2b, ↓e_mkfn, ↓e_mksl, ↓e_slcA, ↓e_slcT, ↓e_call, ↓e_callp, ↓e_callv, ↓e_len, ↓e_lenA, ↓e_mx, ↓e_mn, ↓e_mkmap, ↓e_mput, ↓e_mlen, ↓e_mk8, ↓e_capN, ↓e_appZ, ↓u_onInt, ↓u_onBool, ↓u_onOpt0, ↓u_onOpt1, ↓u_binV, ↓u_srcOf, ↓u_srcSl, ↓binI, ↓binS, ↓fillE, ↓evRes, evA, Opd.ev, Sx.get, put, putO, del, dels, frD, memD, pickD, kills, views, newer, rd, rm, upd, splice, keysOf, kvOf, SV.cells?, SV.one, retOf, ↓u_callS, canLW, canV, canC, belowL, apH, apH1, eta, SV.ren, SV.renL, newOwn, targets, rms, Kind.isOwn, ren_bytes, byte_ren, ren_ints, flat_ints, len_ints, List.getElem?_nil, Option.getD_none, Option.getD_some, Nat.sub_zero, not_true_eq_false, not_false_eq_true, Nat.le_refl, take_bytes, take_ints, nlS_0, nlS_1, nlM_0, nlM_1, nlN_0, nlN_1, take_bys1, map_byte, len_bytes, flat_bytes, Int.toNat_natCast, Nat.mul_one, Int.cast_ofNat_Int]
    exact ⟨by omega, by omega, [(1, 0)], by simp [EntM, compat, apartM, keysBelow, frEnt, geto, eta, idHs, rd, SV.ren, SV.renL, Option.getD_some, Option.getD_none, List.getElem?_cons_zero, List.getElem?_cons_succ, List.getElem?_nil, List.length_cons, List.length_nil, Nat.zero_add, Nat.add_zero, Nat.reduceAdd, Nat.reduceSub, Nat.reduceEqDiff, Nat.reduceLT, Nat.reduceLeDiff, ↓reduceIte, Kind.isOwn, List.take_succ_cons, List.take_zero, List.nil_append, List.cons_append, List.append_nil, List.take_nil, and_self, and_true, true_and, exists_eq_left', Option.some.injEq, Blk.mk.injEq, Kind.own.injEq, List.drop_zero, List.take_length, Nat.le_refl, ne_eq, not_false_eq_true, implies_true, List.forall_mem_cons, List.not_mem_nil, false_imp_iff, Bool.or_false, Bool.false_or, Bool.or_self, Bool.true_or, Bool.or_true, forall_const, reduceCtorEq, List.mem_cons, or_false, forall_eq_or_imp, forall_eq, Nat.succ_ne_self, exists_eq_left, Option.some_inj, byte_ren, one_byte, ren_bytes, len_bytes, take_bytes, take_ints, nlS_0, nlS_1, nlM_0, nlM_1, nlN_0, nlN_1, take_bys1, ren_ints, len_ints], by simp [EntM, compat, apartM, keysBelow, frEnt, geto, eta, idHs, rd, SV.ren, SV.renL, Option.getD_some, Option.getD_none, List.getElem?_cons_zero, List.getElem?_cons_succ, List.getElem?_nil, List.length_cons, List.length_nil, Nat.zero_add, Nat.add_zero, Nat.reduceAdd, Nat.reduceSub, Nat.reduceEqDiff, Nat.reduceLT, Nat.reduceLeDiff, ↓reduceIte, Kind.isOwn, List.take_succ_cons, List.take_zero, List.nil_append, List.cons_append, List.append_nil, List.take_nil, and_self, and_true, true_and, exists_eq_left', Option.some.injEq, Blk.mk.injEq, Kind.own.injEq, List.drop_zero, List.take_length, Nat.le_refl, ne_eq, not_false_eq_true, implies_true, List.forall_mem_cons, List.not_mem_nil, false_imp_iff, Bool.or_false, Bool.false_or, Bool.or_self, Bool.true_or, Bool.or_true, forall_const, reduceCtorEq, List.mem_cons, or_false, forall_eq_or_imp, forall_eq, Nat.succ_ne_self, exists_eq_left, Option.some_inj, byte_ren, one_byte, ren_bytes, len_bytes, take_bytes, take_ints, nlS_0, nlS_1, nlM_0, nlM_1, nlN_0, nlN_1, take_bys1, ren_ints, len_ints]⟩
theorem f29 (l : List Mb) (hP : Pub l) (h0 : 0 < l.length) (hl : l.length ≤ 1000) (cap : Option Nat) : Fun Tryd.prog tS 29 [.slc 0 0 18 l.length cap] [(0, ⟨.view, mcs l⟩)] 1 (.slc 1 0 18 l.length none) [(1, ⟨.own 47, mcs l⟩)] 2 := by
  refine fun_any none cF cF_ok chk29 (show 1 ≤ 8 by decide) (by decide) ?_
  unfold sf29
  have hlen := len_mcs hP
  have h1 : 0 < l.length * 18 := by omega
  have tk : List.take (l.length * 18) (mcs l) = mcs l := List.take_of_length_le (by omega)
  simp (config := { maxSteps := 1000000 }) only [hlen, h1, tk, SV.flatL, SV.flat, Bool.and_true, Bool.and_self, Bool.true_and, beq_self_eq_true, Int.reduceGE, Int.reduceGT, ↓u_callAnd, Blk.mk.injEq, List.cons.injEq, SV.int.injEq, SV.bool.injEq, SV.tup.injEq, SV.agg.injEq, and_self, undef, Int.reduceBNe, Int.reduceBEq, Nat.reduceBNe, Nat.reduceBEq, ↓u_callX, lookF, setv, finO_r, finO_n, finO_x, again_n, again_x, again_r, lookT, eqPat, eqTag, reduceCtorEq, Nat.reduceEqDiff, Nat.reduceAdd, Nat.reduceSub, Nat.reduceMul, Nat.reduceDiv, Nat.reduceLeDiff, Nat.reduceLT, Int.reduceToNat, Int.reduceLT, Int.reduceLE, Int.reduceAdd, Int.reduceSub, Int.reduceMul, Int.reduceNeg, Int.reduceEq, Int.reduceNe, wrap64, false_imp_iff, true_imp_iff, eq_self, decide_true, decide_false, Int.cast_ofNat_Int,  true_and, and_true, false_and, and_false, imp_self, implies_true, List.getElem?_cons_zero, List.getElem?_cons_succ, List.length_cons, List.length_nil, List.append_nil, List.nil_append, List.cons_append, List.take_succ_cons, List.take_zero, List.drop_succ_cons, List.drop_zero, List.take_nil, List.drop_nil, List.reverse_cons, List.reverse_nil, List.map_cons, List.map_nil, Nat.zero_add, Nat.add_zero, frOf, den_nil, den_o0, ↓gd_tt, ↓gd_ff, ↓gd_tf, ↓gd_ft, gd_any, den_o1, kont_app, den_g, setv, Bool.not_true, Bool.not_false, den_skip, den_reg, den_regD, den_regP, den_A, den_regW, den_W, den_bad, evW, baseD, stBlk, touch, clear, untouched, updsW, List.all_cons, List.all_nil, List.contains_cons, List.contains_nil, Bool.not_true, Bool.not_false, Bool.or_false, Bool.or_self, Bool.false_or, Bool.true_or, Bool.or_true, den_seq, den_cond, den_block, den_exit, den_ret, den_b, den_xb, den_xo, den_xc, den_xu, den_rb, den_ro, den_rc, den_ru, den_u, den_loopU, finP_r, finP_n, finP_x, finE_r, finE_n, finE_x, ↓reduceIte, ↓e_box, ↓e_build, ↓e_bslice, ↓e_load, ↓e_store, ↓e_idxS, ↓e_idxV, ↓e_idxT, ↓e_fieldV, ↓e_eqv, ↓e_isNil, ↓e_b2s, ↓e_slcS, ↓e_arrAt, ↓e_ext, ↓e_app, ↓e_copy, ↓e_mv, ↓e_pick, ↓e_new, ↓e_nilc, ↓e_fld, ↓e_idxA, ↓e_bin, ↓e_eqb, ↓e_un, ↓e_conv, ↓e_strS, ↓e_s2b, ↓e_mkfn, ↓e_mksl, ↓e_slcA, ↓e_slcT, ↓e_call, ↓e_callp, ↓e_callv, ↓e_len, ↓e_lenA, ↓e_mx, ↓e_mn, ↓e_mkmap, ↓e_mput, ↓e_mlen, ↓e_mk8, ↓e_capN, ↓e_appZ, ↓u_onInt, ↓u_onBool, ↓u_onOpt0, ↓u_onOpt1, ↓u_binV, ↓u_srcOf, ↓u_srcSl, ↓binI, ↓binS, ↓fillE, ↓evRes, evA, Opd.ev, Sx.get, put, putO, del, dels, frD, memD, pickD, kills, views, newer, rd, rm, upd, splice, keysOf, kvOf, SV.cells?, SV.one, retOf, ↓u_callS, canLW, canV, canC, belowL, apH, apH1, eta, SV.ren, SV.renL, newOwn, targets, rms, Kind.isOwn, ren_bytes, byte_ren, ren_ints, flat_ints, len_ints, List.getElem?_nil, Option.getD_none, Option.getD_some, Nat.sub_zero, not_true_eq_false, not_false_eq_true, Nat.le_refl, take_bytes, take_ints, nlS_0, nlS_1, nlM_0, nlM_1, nlN_0, nlN_1, take_bys1, map_byte, len_bytes, flat_bytes, Int.toNat_natCast, Nat.mul_one, Int.cast_ofNat_Int]
  exact ⟨by omega, by omega, [(0, 0), (2, 0)], by simp [ren_mcs, EntM, compat, apartM, keysBelow, frEnt, geto, eta, idHs, rd, SV.ren, SV.renL, Option.getD_some, Option.getD_none, List.getElem?_cons_zero, List.getElem?_cons_succ, List.getElem?_nil, List.length_cons, List.length_nil, Nat.zero_add, Nat.add_zero, Nat.reduceAdd, Nat.reduceSub, Nat.reduceEqDiff, Nat.reduceLT, Nat.reduceLeDiff, ↓reduceIte, Kind.isOwn, List.take_succ_cons, List.take_zero, List.nil_append, List.cons_append, List.append_nil, List.take_nil, and_self, and_true, true_and, exists_eq_left', Option.some.injEq, Blk.mk.injEq, Kind.own.injEq, List.drop_zero, List.take_length, Nat.le_refl, ne_eq, not_false_eq_true, implies_true, List.forall_mem_cons, List.not_mem_nil, false_imp_iff, Bool.or_false, Bool.false_or, Bool.or_self, Bool.true_or, Bool.or_true, forall_const, reduceCtorEq, List.mem_cons, or_false, forall_eq_or_imp, forall_eq, Nat.succ_ne_self, exists_eq_left, Option.some_inj, byte_ren, one_byte, ren_bytes, len_bytes, take_bytes, take_ints, nlS_0, nlS_1, nlM_0, nlM_1, nlN_0, nlN_1, take_bys1, ren_ints, len_ints], by simp [EntM, compat, apartM, keysBelow, frEnt, geto, eta, idHs, rd, SV.ren, SV.renL, Option.getD_some, Option.getD_none, List.getElem?_cons_zero, List.getElem?_cons_succ, List.getElem?_nil, List.length_cons, List.length_nil, Nat.zero_add, Nat.add_zero, Nat.reduceAdd, Nat.reduceSub, Nat.reduceEqDiff, Nat.reduceLT, Nat.reduceLeDiff, ↓reduceIte, Kind.isOwn, List.take_succ_cons, List.take_zero, List.nil_append, List.cons_append, List.append_nil, List.take_nil, and_self, and_true, true_and, exists_eq_left', Option.some.injEq, Blk.mk.injEq, Kind.own.injEq, List.drop_zero, List.take_length, Nat.le_refl, ne_eq, not_false_eq_true, implies_true, List.forall_mem_cons, List.not_mem_nil, false_imp_iff, Bool.or_false, Bool.false_or, Bool.or_self, Bool.true_or, Bool.or_true, forall_const, reduceCtorEq, List.mem_cons, or_false, forall_eq_or_imp, forall_eq, Nat.succ_ne_self, exists_eq_left, Option.some_inj, byte_ren, one_byte, ren_bytes, len_bytes, take_bytes, take_ints, nlS_0, nlS_1, nlM_0, nlM_1, nlN_0, nlN_1, take_bys1, ren_ints, len_ints]⟩
def gClone : GS
  | [.slc 0 0 18 len none], [(0, ⟨.view, cells⟩)] => match unM cells.length cells with
    | some l => if len = l.length ∧ l.length ≤ 1000 then some (.slc 1 0 18 l.length none, [(1, ⟨.own 47, mcs l⟩)], 2) else none
    | none => none
  | _, _ => none
theorem gClone_ok : FunS Tryd.prog tS 29 gClone := by
  intro a0 m0 r m1 n1 h
  unfold gClone at h
  split at h
  · split at h
    · rename_i l hl
      split at h
      · rename_i hc
        obtain ⟨h1, h2⟩ := hc
        cases h
        subst h1
        obtain ⟨rfl, hP⟩ := unM_some hl
        rcases Nat.eq_zero_or_pos l.length with h0 | h0
        · have : l = [] := List.length_eq_zero_iff.1 h0
          subst this
          exact ⟨f29e, by simp [freshB]⟩
        · exact ⟨f29 l hP h0 h2 _, by simp [freshB]⟩
      · cases h
    · cases h
  · cases h
def tabN : List (FuncId × GS) := [(29, gClone), (12, gValid)]
theorem tabN_ok : ∀ x ∈ tabN, FunS Tryd.prog tS x.1 x.2 := by
  intro x hx
  simp only [tabN, List.mem_cons, List.not_mem_nil, or_false] at hx
  rcases hx with rfl | rfl
  · exact gClone_ok
  · exact gValid_ok
def replB (e n need : Int) (l l' : List Mb) : Bool := validB e n l && validB (IntKind.i64.wrap (e + 1)) need l'
def noCust : SV := .agg [.int .i64 0, .int .i64 0, .val (.slice none 0 0)]
set_option maxHeartbeats 4000000 in
theorem f10 (e n need : Int) (l l' : List Mb) (hP : Pub l) (hP' : Pub l') (hl : l.length ≤ 1000) (hl' : l'.length ≤ 1000) :
    (replB e n need l l' = true → Fun Tryd.prog tS 10 [.agg [.int .i64 e, .int .i64 n, .slc 0 0 18 l.length none], .int .i64 need, .slc 1 0 18 l'.length none] [(0, ⟨.view, mcs l⟩), (1, ⟨.view, mcs l'⟩)] 2
      (.tup [.agg [.int .i64 (IntKind.i64.wrap (e + 1)), .int .i64 need, .slc 2 0 18 l'.length none], .int .i64 0]) [(2, ⟨.own 47, mcs l'⟩)] 3) ∧
    (replB e n need l l' = false → Fun Tryd.prog tS 10 [.agg [.int .i64 e, .int .i64 n, .slc 0 0 18 l.length none], .int .i64 need, .slc 1 0 18 l'.length none] [(0, ⟨.view, mcs l⟩), (1, ⟨.view, mcs l'⟩)] 2
      (.tup [noCust, .int .i64 1]) [] 2) := by
  have hlen := len_mcs hP
  have hlen' := len_mcs hP'
  have fl := flat_mcs l
  have fl' := flat_mcs l'
  have tk : List.take (l.length * 18) (mcs l) = mcs l := List.take_of_length_le (by omega)
  have tk' : List.take (l'.length * 18) (mcs l') = mcs l' := List.take_of_length_le (by omega)
  have un := unM_mcs (f := (mcs l).length) hP (by rw [hlen]; omega)
  rw [hlen] at un
  have un' := unM_mcs (f := (mcs l').length) hP' (by rw [hlen']; omega)
  rw [hlen'] at un'
  have b0 : Nat.ble l.length 9223372036854775807 = true := Nat.ble_eq_true_of_le (by omega)
  have b0' : Nat.ble l'.length 9223372036854775807 = true := Nat.ble_eq_true_of_le (by omega)
  constructor
  all_goals
    intro hr
    unfold replB at hr
    refine fun_any none (callS tabN cF) (callS_ok tabN_ok cF_ok) chk10 (show 3 ≤ 26 by decide) (by decide) ?_
    unfold sf10
    cases hv : validB e n l <;> cases hv' : validB (IntKind.i64.wrap (e + 1)) need l' <;> rw [hv, hv'] at hr <;> simp only [Bool.and_true, Bool.and_false, Bool.and_self, Bool.true_and, Bool.false_and, Bool.false_eq_true, Bool.true_eq_false, reduceCtorEq] at hr
    all_goals
      simp (config := { maxSteps := 1000000 }) only [tabN, gClone, gValid, ren_mcs, hlen, hlen', fl, fl', tk, tk', un, un', b0, b0', hl', hv, hv', SV.flatL, SV.flat, Bool.and_true, Bool.and_self, Bool.true_and, beq_self_eq_true, Int.reduceGE, Int.reduceGT, ↓u_callAnd, Blk.mk.injEq, List.cons.injEq, SV.int.injEq, SV.bool.injEq, SV.tup.injEq, SV.agg.injEq, and_self, undef, Int.reduceBNe, Int.reduceBEq, Nat.reduceBNe, Nat.reduceBEq, ↓u_callX, lookF, setv, finO_r, finO_n, finO_x, again_n, again_x, again_r, lookT, eqPat, eqTag, reduceCtorEq, Nat.reduceEqDiff, Nat.reduceAdd, Nat.reduceSub, Nat.reduceMul, Nat.reduceDiv, Nat.reduceLeDiff, Nat.reduceLT, Int.reduceToNat, Int.reduceLT, Int.reduceLE, Int.reduceAdd, Int.reduceSub, Int.reduceMul, Int.reduceNeg, Int.reduceEq, Int.reduceNe, wrap64, false_imp_iff, true_imp_iff, eq_self, decide_true, decide_false, Int.cast_ofNat_Int,  true_and, and_true, false_and, and_false, imp_self, implies_true, List.getElem?_cons_zero, List.getElem?_cons_succ, List.length_cons, List.length_nil, List.append_nil, List.nil_append, List.cons_append, List.take_succ_cons, List.take_zero, List.drop_succ_cons, List.drop_zero, List.take_nil, List.drop_nil, List.reverse_cons, List.reverse_nil, List.map_cons, List.map_nil, Nat.zero_add, Nat.add_zero, frOf, den_nil, den_o0, ↓gd_tt, ↓gd_ff, ↓gd_tf, ↓gd_ft, gd_any, den_o1, kont_app, den_g, setv, Bool.not_true, Bool.not_false, den_skip, den_reg, den_regD, den_regP, den_A, den_regW, den_W, den_bad, evW, baseD, stBlk, touch, clear, untouched, updsW, List.all_cons, List.all_nil, List.contains_cons, List.contains_nil, Bool.not_true, Bool.not_false, Bool.or_false, Bool.or_self, Bool.false_or, Bool.true_or, Bool.or_true, den_seq, den_cond, den_block, den_exit, den_ret, den_b, den_xb, den_xo, den_xc, den_xu, den_rb, den_ro, den_rc, den_ru, den_u, den_loopU, finP_r, finP_n, finP_x, finE_r, finE_n, finE_x, ↓reduceIte, ↓e_box, ↓e_build, ↓e_bslice, ↓e_load, ↓e_store, ↓e_idxS, ↓e_idxV, ↓e_idxT, ↓e_fieldV, ↓e_eqv, ↓e_isNil, ↓e_b2s, ↓e_slcS, ↓e_arrAt, ↓e_ext, ↓e_app, ↓e_copy, ↓e_mv, ↓e_pick, ↓e_new, ↓e_nilc, ↓e_fld, ↓e_idxA, ↓e_bin, ↓e_eqb, ↓e_un, ↓e_conv, ↓e_strS, ↓e_s2b, ↓e_mkfn, ↓e_mksl, ↓e_slcA, ↓e_slcT, ↓e_call, ↓e_callp, ↓e_callv, ↓e_len, ↓e_lenA, ↓e_mx, ↓e_mn, ↓e_mkmap, ↓e_mput, ↓e_mlen, ↓e_mk8, ↓e_capN, ↓e_appZ, ↓u_onInt, ↓u_onBool, ↓u_onOpt0, ↓u_onOpt1, ↓u_binV, ↓u_srcOf, ↓u_srcSl, ↓binI, ↓binS, ↓fillE, ↓evRes, evA, Opd.ev, Sx.get, put, putO, del, dels, frD, memD, pickD, kills, views, newer, rd, rm, upd, splice, keysOf, kvOf, SV.cells?, SV.one, retOf, ↓u_callS, canLW, canV, canC, belowL, apH, apH1, eta, SV.ren, SV.renL, newOwn, targets, rms, Kind.isOwn, ren_bytes, byte_ren, ren_ints, flat_ints, len_ints, List.getElem?_nil, Option.getD_none, Option.getD_some, Nat.sub_zero, not_true_eq_false, not_false_eq_true, Nat.le_refl, take_bytes, take_ints, nlS_0, nlS_1, nlM_0, nlM_1, nlN_0, nlN_1, take_bys1, map_byte, len_bytes, flat_bytes, Int.toNat_natCast, Nat.mul_one, Int.cast_ofNat_Int]
      first
        | exact ⟨[(0, 0), (1, 0), (4, 0)], by simp [ren_mcs, EntM, compat, apartM, keysBelow, frEnt, geto, eta, idHs, rd, SV.ren, SV.renL, Option.getD_some, Option.getD_none, List.getElem?_cons_zero, List.getElem?_cons_succ, List.getElem?_nil, List.length_cons, List.length_nil, Nat.zero_add, Nat.add_zero, Nat.reduceAdd, Nat.reduceSub, Nat.reduceEqDiff, Nat.reduceLT, Nat.reduceLeDiff, ↓reduceIte, Kind.isOwn, List.take_succ_cons, List.take_zero, List.nil_append, List.cons_append, List.append_nil, List.take_nil, and_self, and_true, true_and, exists_eq_left', Option.some.injEq, Blk.mk.injEq, Kind.own.injEq, List.drop_zero, List.take_length, Nat.le_refl, ne_eq, not_false_eq_true, implies_true, List.forall_mem_cons, List.not_mem_nil, false_imp_iff, Bool.or_false, Bool.false_or, Bool.or_self, Bool.true_or, Bool.or_true, forall_const, reduceCtorEq, List.mem_cons, or_false, forall_eq_or_imp, forall_eq, Nat.succ_ne_self, exists_eq_left, Option.some_inj, byte_ren, one_byte, ren_bytes, len_bytes, take_bytes, take_ints, nlS_0, nlS_1, nlM_0, nlM_1, nlN_0, nlN_1, take_bys1, ren_ints, len_ints], by simp [EntM, compat, apartM, keysBelow, frEnt, geto, eta, idHs, rd, SV.ren, SV.renL, Option.getD_some, Option.getD_none, List.getElem?_cons_zero, List.getElem?_cons_succ, List.getElem?_nil, List.length_cons, List.length_nil, Nat.zero_add, Nat.add_zero, Nat.reduceAdd, Nat.reduceSub, Nat.reduceEqDiff, Nat.reduceLT, Nat.reduceLeDiff, ↓reduceIte, Kind.isOwn, List.take_succ_cons, List.take_zero, List.nil_append, List.cons_append, List.append_nil, List.take_nil, and_self, and_true, true_and, exists_eq_left', Option.some.injEq, Blk.mk.injEq, Kind.own.injEq, List.drop_zero, List.take_length, Nat.le_refl, ne_eq, not_false_eq_true, implies_true, List.forall_mem_cons, List.not_mem_nil, false_imp_iff, Bool.or_false, Bool.false_or, Bool.or_self, Bool.true_or, Bool.or_true, forall_const, reduceCtorEq, List.mem_cons, or_false, forall_eq_or_imp, forall_eq, Nat.succ_ne_self, exists_eq_left, Option.some_inj, byte_ren, one_byte, ren_bytes, len_bytes, take_bytes, take_ints, nlS_0, nlS_1, nlM_0, nlM_1, nlN_0, nlN_1, take_bys1, ren_ints, len_ints]⟩
        | exact ⟨[(0, 0), (1, 0)], ⟨rfl, by simp [ren_mcs, EntM, compat, apartM, keysBelow, frEnt, geto, eta, idHs, rd, SV.ren, SV.renL, Option.getD_some, Option.getD_none, List.getElem?_cons_zero, List.getElem?_cons_succ, List.getElem?_nil, List.length_cons, List.length_nil, Nat.zero_add, Nat.add_zero, Nat.reduceAdd, Nat.reduceSub, Nat.reduceEqDiff, Nat.reduceLT, Nat.reduceLeDiff, ↓reduceIte, Kind.isOwn, List.take_succ_cons, List.take_zero, List.nil_append, List.cons_append, List.append_nil, List.take_nil, and_self, and_true, true_and, exists_eq_left', Option.some.injEq, Blk.mk.injEq, Kind.own.injEq, List.drop_zero, List.take_length, Nat.le_refl, ne_eq, not_false_eq_true, implies_true, List.forall_mem_cons, List.not_mem_nil, false_imp_iff, Bool.or_false, Bool.false_or, Bool.or_self, Bool.true_or, Bool.or_true, forall_const, reduceCtorEq, List.mem_cons, or_false, forall_eq_or_imp, forall_eq, Nat.succ_ne_self, exists_eq_left, Option.some_inj, byte_ren, one_byte, ren_bytes, len_bytes, take_bytes, take_ints, nlS_0, nlS_1, nlM_0, nlM_1, nlN_0, nlN_1, take_bys1, ren_ints, len_ints]⟩, rfl⟩
def gReplace : GS
  | [.agg [.int .i64 e, .int .i64 n, .slc 0 0 18 len none], .int .i64 need, .slc 1 0 18 len' none], [(0, ⟨.view, cells⟩), (1, ⟨.view, cells'⟩)] => match unM cells.length cells, unM cells'.length cells' with
    | some l, some l' => if len = l.length ∧ len' = l'.length ∧ l.length ≤ 1000 ∧ l'.length ≤ 1000 then (match replB e n need l l' with
      | true => some (.tup [.agg [.int .i64 (IntKind.i64.wrap (e + 1)), .int .i64 need, .slc 2 0 18 l'.length none], .int .i64 0], [(2, ⟨.own 47, mcs l'⟩)], 3)
      | false => some (.tup [noCust, .int .i64 1], [], 2)) else none
    | _, _ => none
  | _, _ => none
theorem gReplace_ok : FunS Tryd.prog tS 10 gReplace := by
  intro a0 m0 r m1 n1 h
  unfold gReplace at h
  split at h
  · rename_i e n len need len' cells cells'
    split at h
    · rename_i l l' hl hl'
      split at h
      · rename_i hc
        obtain ⟨h1, h2, h4, h5⟩ := hc
        subst h1; subst h2
        obtain ⟨rfl, hP⟩ := unM_some hl
        obtain ⟨rfl, hP'⟩ := unM_some hl'
        obtain ⟨F1, F2⟩ := f10 (tS := tS) e n need l l' hP hP' h4 h5
        split at h
        · rename_i hb; cases h; exact ⟨F1 hb, by simp [freshB]⟩
        · rename_i hb; cases h; exact ⟨F2 hb, by simp [freshB]⟩
      · cases h
    · cases h
  · cases h
end Go.Proofs.YtkfbkooobfepeaaDoor

/- The functions of the program that are walked through, written out for the engine (printed by wip/tools/Print.lean from the dump), and the kernel's check of each against the program. -/
namespace Go.Proofs.YtkfbkooobfepeaaDoor.Sf
open Go Go.Sx
set_option maxRecDepth 100000
set_option linter.unusedSimpArgs false
set_option linter.unusedVariables false

/-- custody/wire.Ints -/
def sf31 : SF := ⟨21, [.t 2],
 .seq (.reg [⟨(some 2), .mv (.c (.val (.slice none 0 0))), none, [2], [], []⟩])
  (.seq (.reg [⟨(some 6), .mv (.t 0), none, [], [], []⟩,
    ⟨(some 7), .len false (.t 6), none, [6], [], []⟩,
    ⟨(some 8), .call 34 [.t 7], none, [7], [], []⟩,
    ⟨(some 3), .mv (.t 8), none, [8], [], []⟩])
   (.seq (.seq (.reg [⟨(some 9), .mv (.t 0), none, [0], [], []⟩,
      ⟨(some 10), .len false (.t 9), none, [], [], []⟩,
      ⟨(some 11), .mv (.c (.int .i64 0)), none, [], [], []⟩])
     (.block 0 (.loop (.seq (.reg [⟨(some 12), .bin .lss (.t 11) (.t 10), none, [], [], []⟩])
        (.seq (.cond (.t 12) (.skip)
          (.exit 0))
         (.seq (.block 1 (.seq (.reg [⟨(some 13), .idxS (.t 9) (.t 11) 1, none, [], [], []⟩,
             ⟨(some 14), .load none (.t 13), none, [13], [], []⟩,
             ⟨(some 5), .mv (.t 14), none, [14], [], []⟩])
            (.reg [⟨(some 15), .mv (.t 3), none, [3], [], []⟩,
             ⟨(some 16), .mv (.t 5), none, [5], [], []⟩,
             ⟨(some 17), .call 34 [.t 16], none, [16], [], []⟩,
             ⟨(some 18), .app 5 1 1 (.t 15) (.t 17), none, [15, 17], [], []⟩,
             ⟨(some 3), .mv (.t 18), none, [18], [], []⟩])))
          (.reg [⟨(some 19), .bin .add (.t 11) (.c (.int .i64 1)), none, [11], [], []⟩,
           ⟨(some 11), .mv (.t 19), none, [19], [], []⟩])))))))
    (.seq (.reg [⟨(some 20), .mv (.t 3), none, [3], [], []⟩,
      ⟨(some 2), .mv (.t 20), none, [20], [], []⟩])
     (.ret))))⟩
theorem chk31 : chkF Tryd.prog 31 sf31 = true := by kernel_rfl
/-- slices.Concat[[]byte,byte] -/
def sf32 : SF := ⟨36, [.t 2],
 .seq (.reg [⟨(some 2), .mv (.c (.val (.slice none 0 0))), none, [2], [], []⟩])
  (.seq (.reg [⟨(some 3), .mv (.c (.int .i64 0)), none, [], [], []⟩])
   (.seq (.seq (.reg [⟨(some 9), .mv (.t 0), none, [], [], []⟩,
      ⟨(some 10), .len false (.t 9), none, [], [], []⟩,
      ⟨(some 11), .mv (.c (.int .i64 0)), none, [], [], []⟩])
     (.block 0 (.loop (.seq (.reg [⟨(some 12), .bin .lss (.t 11) (.t 10), none, [], [], []⟩])
        (.seq (.cond (.t 12) (.skip)
          (.exit 0))
         (.seq (.block 1 (.seq (.reg [⟨(some 13), .idxS (.t 9) (.t 11) 1, none, [], [], []⟩,
             ⟨(some 14), .load none (.t 13), none, [13], [], []⟩,
             ⟨(some 5), .mv (.t 14), none, [14], [], []⟩])
            (.seq (.reg [⟨(some 15), .mv (.t 3), none, [3], [], []⟩,
              ⟨(some 16), .mv (.t 5), none, [5], [], []⟩,
              ⟨(some 17), .len false (.t 16), none, [16], [], []⟩,
              ⟨(some 18), .bin .add (.t 15) (.t 17), none, [15, 17], [], []⟩,
              ⟨(some 3), .mv (.t 18), none, [18], [], []⟩])
             (.seq (.reg [⟨(some 19), .mv (.t 3), none, [], [], []⟩,
               ⟨(some 20), .bin .lss (.t 19) (.c (.int .i64 0)), none, [19], [], []⟩])
              (.cond (.t 20) (.bad)
               (.skip))))))
          (.reg [⟨(some 22), .bin .add (.t 11) (.c (.int .i64 1)), none, [11], [], []⟩,
           ⟨(some 11), .mv (.t 22), none, [22], [], []⟩])))))))
    (.seq (.reg [⟨(some 23), .mv (.t 3), none, [3], [], []⟩,
      ⟨(some 24), .call 51 [.c (.val (.slice none 0 0)), .t 23], none, [23], [], []⟩,
      ⟨(some 6), .mv (.t 24), none, [24], [], []⟩])
     (.seq (.seq (.reg [⟨(some 25), .mv (.t 0), none, [0], [], []⟩,
        ⟨(some 26), .len false (.t 25), none, [], [], []⟩,
        ⟨(some 27), .mv (.c (.int .i64 0)), none, [], [], []⟩])
       (.block 2 (.loop (.seq (.reg [⟨(some 28), .bin .lss (.t 27) (.t 26), none, [], [], []⟩])
          (.seq (.cond (.t 28) (.skip)
            (.exit 2))
           (.seq (.block 3 (.seq (.reg [⟨(some 29), .idxS (.t 25) (.t 27) 1, none, [], [], []⟩,
               ⟨(some 30), .load none (.t 29), none, [29], [], []⟩,
               ⟨(some 8), .mv (.t 30), none, [30], [], []⟩])
              (.reg [⟨(some 31), .mv (.t 6), none, [6], [], []⟩,
               ⟨(some 32), .mv (.t 8), none, [8], [], []⟩,
               ⟨(some 33), .app 5 1 1 (.t 31) (.t 32), none, [31, 32], [], []⟩,
               ⟨(some 6), .mv (.t 33), none, [33], [], []⟩])))
            (.reg [⟨(some 34), .bin .add (.t 27) (.c (.int .i64 1)), none, [27], [], []⟩,
             ⟨(some 27), .mv (.t 34), none, [34], [], []⟩])))))))
      (.seq (.reg [⟨(some 35), .mv (.t 6), none, [6], [], []⟩,
        ⟨(some 2), .mv (.t 35), none, [35], [], []⟩])
       (.ret))))))⟩
theorem chk32 : chkF Tryd.prog 32 sf32 = true := by kernel_rfl
/-- custody/wire.Bytes -/
def sf33 : SF := ⟨8, [.t 2],
 .seq (.reg [⟨(some 2), .mv (.c (.val (.slice none 0 0))), none, [2], [], []⟩])
  (.seq (.reg [⟨(some 3), .mv (.t 0), none, [], [], []⟩,
    ⟨(some 4), .len true (.t 3), none, [3], [], []⟩,
    ⟨(some 5), .call 34 [.t 4], none, [4], [], []⟩,
    ⟨(some 6), .mv (.t 0), none, [0], [], []⟩,
    ⟨(some 7), .app 5 1 1 (.t 5) (.t 6), none, [5, 6], [], []⟩,
    ⟨(some 2), .mv (.t 7), none, [7], [], []⟩])
   (.ret))⟩
theorem chk33 : chkF Tryd.prog 33 sf33 = true := by kernel_rfl
/-- custody/wire.Int -/
def sf34 : SF := ⟨47, [.t 2],
 .seq (.reg [⟨(some 2), .mv (.c (.val (.slice none 0 0))), none, [2], [], []⟩])
  (.seq (.reg [⟨(some 8), .mv (.t 0), none, [], [], []⟩,
    ⟨(some 9), .conv .u64 (.t 8), none, [8], [], []⟩,
    ⟨(some 3), .mv (.t 9), none, [9], [], []⟩,
    ⟨(some 4), .mv (.c (.int .u8 0)), none, [], [], []⟩])
   (.seq (.seq (.reg [⟨(some 10), .mv (.t 0), none, [0], [], []⟩,
      ⟨(some 11), .bin .lss (.t 10) (.c (.int .i64 0)), none, [10], [], []⟩])
     (.cond (.t 11) (.reg [⟨(some 12), .mv (.t 3), none, [3], [], []⟩,
       ⟨(some 13), .un .xor (.t 12), none, [12], [], []⟩,
       ⟨(some 3), .mv (.t 13), none, [13], [], []⟩,
       ⟨(some 4), .mv (.c (.int .u8 255)), none, [], [], []⟩])
      (.skip)))
    (.seq (.reg [⟨(some 5), .mv (.c (.int .i64 8)), none, [], [], []⟩])
     (.seq (.skip)
      (.seq (.block 0 (.loop (.seq (.seq (.reg [⟨(some 14), .mv (.t 5), none, [], [], []⟩,
            ⟨(some 15), .bin .gtr (.t 14) (.c (.int .i64 0)), none, [14], [], []⟩])
           (.cond (.t 15) (.skip)
            (.exit 0)))
          (.block 1 (.seq (.seq (.reg [⟨(some 16), .mv (.t 3), none, [], [], []⟩,
              ⟨(some 17), .mv (.t 5), none, [], [], []⟩,
              ⟨(some 18), .bin .sub (.t 17) (.c (.int .i64 1)), none, [17], [], []⟩,
              ⟨(some 19), .bin .mul (.c (.int .i64 8)) (.t 18), none, [18], [], []⟩,
              ⟨(some 20), .bin .shr (.t 16) (.t 19), none, [16, 19], [], []⟩,
              ⟨(some 21), .bin .gtr (.t 20) (.c (.int .u64 0)), none, [20], [], []⟩])
             (.cond (.t 21) (.exit 0)
              (.skip)))
            (.reg [⟨(some 22), .mv (.t 5), none, [5], [], []⟩,
             ⟨(some 23), .bin .sub (.t 22) (.c (.int .i64 1)), none, [22], [], []⟩,
             ⟨(some 5), .mv (.t 23), none, [23], [], []⟩]))))))
       (.seq (.reg [⟨(some 24), .mv (.t 5), none, [], [], []⟩,
         ⟨(some 25), .bin .add (.c (.int .i64 128)) (.t 24), none, [24], [], []⟩,
         ⟨(some 26), .conv .u8 (.t 25), none, [25], [], []⟩,
         ⟨(some 27), .mv (.t 4), none, [], [], []⟩,
         ⟨(some 28), .bin .xor (.t 26) (.t 27), none, [26, 27], [], []⟩,
         ⟨(some 29), .bslice 5 1 1 [.int .u8 0] [(0, 1, .t 28)], none, [28], [], []⟩,
         ⟨(some 6), .mv (.t 29), none, [29], [], []⟩])
        (.seq (.seq (.reg [⟨(some 30), .mv (.t 5), none, [5], [], []⟩,
           ⟨(some 31), .bin .sub (.t 30) (.c (.int .i64 1)), none, [30], [], []⟩,
           ⟨(some 7), .mv (.t 31), none, [31], [], []⟩])
          (.block 2 (.loop (.seq (.seq (.reg [⟨(some 32), .mv (.t 7), none, [], [], []⟩,
               ⟨(some 33), .bin .geq (.t 32) (.c (.int .i64 0)), none, [32], [], []⟩])
              (.cond (.t 33) (.skip)
               (.exit 2)))
             (.seq (.block 3 (.reg [⟨(some 36), .mv (.t 6), none, [6], [], []⟩,
                ⟨(some 37), .mv (.t 3), none, [], [], []⟩,
                ⟨(some 38), .mv (.t 7), none, [], [], []⟩,
                ⟨(some 39), .bin .mul (.c (.int .i64 8)) (.t 38), none, [38], [], []⟩,
                ⟨(some 40), .bin .shr (.t 37) (.t 39), none, [37, 39], [], []⟩,
                ⟨(some 41), .conv .u8 (.t 40), none, [40], [], []⟩,
                ⟨(some 42), .mv (.t 4), none, [], [], []⟩,
                ⟨(some 43), .bin .xor (.t 41) (.t 42), none, [41, 42], [], []⟩,
                ⟨(some 44), .bslice 5 1 1 [.int .u8 0] [(0, 1, .t 43)], none, [43], [], []⟩,
                ⟨(some 45), .app 5 1 1 (.t 36) (.t 44), none, [36, 44], [], []⟩,
                ⟨(some 6), .mv (.t 45), none, [45], [], []⟩]))
              (.reg [⟨(some 34), .mv (.t 7), none, [7], [], []⟩,
               ⟨(some 35), .bin .sub (.t 34) (.c (.int .i64 1)), none, [34], [], []⟩,
               ⟨(some 7), .mv (.t 35), none, [35], [], []⟩]))))))
         (.seq (.reg [⟨(some 46), .mv (.t 6), none, [6], [], []⟩,
           ⟨(some 2), .mv (.t 46), none, [46], [], []⟩])
          (.ret)))))))))⟩
theorem chk34 : chkF Tryd.prog 34 sf34 = true := by kernel_rfl
/-- custody/hash.Of -/
def sf39 : SF := ⟨32, [.c 4 (some 16)],
 .seq (.reg [⟨(some 4), .new 36 [.int .u8 0, .int .u8 0, .int .u8 0, .int .u8 0, .int .u8 0, .int .u8 0, .int .u8 0, .int .u8 0, .int .u8 0, .int .u8 0, .int .u8 0, .int .u8 0, .int .u8 0, .int .u8 0, .int .u8 0, .int .u8 0], none, [], [], []⟩])
  (.seq (.regD 7 [⟨(some 9), .callp 52 [], none, [], [], [5, 10, 11, 12, 13]⟩,
    ⟨(some 10), .mv (.t 0), none, [], [], [5, 9]⟩,
    ⟨(some 11), .conv .u8 (.t 10), none, [], [1], [5, 9]⟩,
    ⟨(some 12), .bslice 5 1 1 [.int .u8 0] [(0, 1, .t 11)], none, [], [1, 2], [5, 9]⟩,
    ⟨(some 13), .b2s (.t 12), none, [], [1, 2, 3], [5, 9]⟩,
    ⟨(some 14), .callp 53 [.t 9, .t 13], none, [], [0, 1, 2, 3, 4], [5]⟩,
    ⟨(some 5), .new 86 [.int .u32 0, .int .u32 0, .int .u32 0, .int .u32 0, .int .u32 0, .int .u32 0, .int .u32 0, .int .u32 0, .int .u8 0, .int .u8 0, .int .u8 0, .int .u8 0, .int .u8 0, .int .u8 0, .int .u8 0, .int .u8 0, .int .u8 0, .int .u8 0, .int .u8 0, .int .u8 0, .int .u8 0, .int .u8 0, .int .u8 0, .int .u8 0, .int .u8 0, .int .u8 0, .int .u8 0, .int .u8 0, .int .u8 0, .int .u8 0, .int .u8 0, .int .u8 0, .int .u8 0, .int .u8 0, .int .u8 0, .int .u8 0, .int .u8 0, .int .u8 0, .int .u8 0, .int .u8 0, .int .u8 0, .int .u8 0, .int .u8 0, .int .u8 0, .int .u8 0, .int .u8 0, .int .u8 0, .int .u8 0, .int .u8 0, .int .u8 0, .int .u8 0, .int .u8 0, .int .u8 0, .int .u8 0, .int .u8 0, .int .u8 0, .int .u8 0, .int .u8 0, .int .u8 0, .int .u8 0, .int .u8 0, .int .u8 0, .int .u8 0, .int .u8 0, .int .u8 0, .int .u8 0, .int .u8 0, .int .u8 0, .int .u8 0, .int .u8 0, .int .u8 0, .int .u8 0, .int .u64 0], none, [0, 9, 10, 11, 12, 13], [], [9, 10, 11, 12, 13, 14]⟩,
    ⟨none, .store 73 (.t 5) (.t 14), none, [14], [0, 1, 2, 3, 4, 5, 6], []⟩])
   (.seq (.seq (.reg [⟨(some 15), .mv (.t 1), none, [1], [], []⟩,
      ⟨(some 16), .len false (.t 15), none, [], [], []⟩,
      ⟨(some 17), .mv (.c (.int .i64 0)), none, [], [], []⟩])
     (.block 0 (.loop (.seq (.reg [⟨(some 18), .bin .lss (.t 17) (.t 16), none, [], [], []⟩])
        (.seq (.cond (.t 18) (.skip)
          (.exit 0))
         (.seq (.block 1 (.seq (.reg [⟨(some 19), .idxS (.t 15) (.t 17) 1, none, [], [], []⟩,
             ⟨(some 20), .load none (.t 19), none, [19], [], []⟩,
             ⟨(some 7), .mv (.t 20), none, [20], [], []⟩])
            (.regD 4 [⟨(some 21), .load (some 73) (.t 5), none, [], [], [22, 23, 24]⟩,
             ⟨(some 22), .mv (.t 7), none, [], [], [21]⟩,
             ⟨(some 23), .call 33 [.t 22], none, [], [1], [21]⟩,
             ⟨(some 24), .b2s (.t 23), none, [7, 22, 23], [1, 2], [21]⟩,
             ⟨(some 25), .callp 53 [.t 21, .t 24], none, [21, 24], [0, 1, 2, 3], []⟩,
             ⟨none, .store 73 (.t 5) (.t 25), none, [25], [0, 1, 2, 3, 4], []⟩])))
          (.reg [⟨(some 26), .bin .add (.t 17) (.c (.int .i64 1)), none, [17], [], []⟩,
           ⟨(some 17), .mv (.t 26), none, [26], [], []⟩])))))))
    (.seq (.reg [⟨(some 27), .load (some 73) (.t 5), none, [5], [], []⟩,
      ⟨(some 28), .callp 54 [.t 27], none, [27], [], []⟩,
      ⟨(some 8), .new 89 [.int .u8 0, .int .u8 0, .int .u8 0, .int .u8 0, .int .u8 0, .int .u8 0, .int .u8 0, .int .u8 0, .int .u8 0, .int .u8 0, .int .u8 0, .int .u8 0, .int .u8 0, .int .u8 0, .int .u8 0, .int .u8 0, .int .u8 0, .int .u8 0, .int .u8 0, .int .u8 0, .int .u8 0, .int .u8 0, .int .u8 0, .int .u8 0, .int .u8 0, .int .u8 0, .int .u8 0, .int .u8 0, .int .u8 0, .int .u8 0, .int .u8 0, .int .u8 0], none, [], [], []⟩,
      ⟨none, .store 32 (.t 8) (.t 28), none, [28], [], []⟩])
     (.seq (.reg [⟨(some 29), .slcA 32 1 (.t 8) none (some (.c (.int .i64 16))), none, [8], [], []⟩,
       ⟨(some 30), .arrAt 16 (.t 29), none, [29], [], []⟩,
       ⟨(some 31), .load (some 16) (.t 30), none, [30], [], []⟩,
       ⟨none, .store 16 (.t 4) (.t 31), none, [31], [], []⟩])
      (.ret)))))⟩
theorem chk39 : chkF Tryd.prog 39 sf39 = true := by kernel_rfl
/-- custody/treesig.Verify -/
def sf41 : SF := ⟨129, [.t 8, .t 9],
 .seq (.reg [⟨(some 4), .box 36 (.t 0), none, [0], [], []⟩,
   ⟨(some 8), .mv (.c (.int .i64 0)), none, [8], [], []⟩,
   ⟨(some 9), .mv (.c (.int .i64 0)), none, [9], [], []⟩])
  (.seq (.block 0 (.seq (.reg [⟨(some 21), .mv (.t 1), none, [], [], []⟩,
      ⟨(some 22), .callp 57 [.t 21], none, [21], [], []⟩,
      ⟨(some 23), .un .not (.t 22), none, [22], [], []⟩,
      ⟨(some 20), .mv (.t 23), none, [23], [], []⟩])
     (.cond (.t 20) (.seq (.reg [⟨(some 8), .mv (.c (.int .i64 0)), none, [], [], []⟩,
        ⟨(some 9), .mv (.c (.int .i64 1)), none, [], [], []⟩])
       (.ret))
      (.seq (.reg [⟨(some 25), .mv (.t 2), none, [], [], []⟩,
        ⟨(some 26), .len true (.t 25), none, [25], [], []⟩,
        ⟨(some 27), .bin .gtr (.t 26) (.c (.int .i64 1048576)), none, [26], [], []⟩,
        ⟨(some 24), .mv (.t 27), none, [27], [], []⟩])
       (.cond (.t 24) (.seq (.reg [⟨(some 8), .mv (.c (.int .i64 0)), none, [], [], []⟩,
          ⟨(some 9), .mv (.c (.int .i64 2)), none, [], [], []⟩])
         (.ret))
        (.skip))))))
   (.seq (.reg [⟨(some 29), .mv (.t 3), none, [3], [], []⟩,
     ⟨(some 30), .call 58 [.t 29], none, [29], [], []⟩,
     ⟨(some 28), .mv (.t 30), none, [30], [], []⟩,
     ⟨(some 31), .ext (.t 28) 0, none, [], [], []⟩,
     ⟨(some 32), .ext (.t 28) 1, none, [28], [], []⟩,
     ⟨(some 10), .mv (.t 31), none, [31], [], []⟩,
     ⟨(some 11), .mv (.t 32), none, [32], [], []⟩])
    (.seq (.reg [⟨(some 34), .mv (.t 11), none, [], [], []⟩,
      ⟨(some 35), .callv (.t 34) [], none, [34], [], []⟩,
      ⟨(some 33), .mv (.t 35), none, [35], [], []⟩,
      ⟨(some 36), .ext (.t 33) 0, none, [], [], []⟩,
      ⟨(some 37), .ext (.t 33) 1, none, [33], [], []⟩,
      ⟨(some 12), .mv (.t 36), none, [36], [], []⟩,
      ⟨(some 13), .mv (.t 37), none, [13, 37], [], []⟩])
     (.seq (.reg [⟨(some 39), .mv (.t 12), none, [12], [], []⟩,
       ⟨(some 40), .call 59 [.t 39], none, [39], [], []⟩,
       ⟨(some 38), .mv (.t 40), none, [40], [], []⟩,
       ⟨(some 41), .ext (.t 38) 0, none, [], [], []⟩,
       ⟨(some 42), .ext (.t 38) 1, none, [], [], []⟩,
       ⟨(some 43), .ext (.t 38) 2, none, [38], [], []⟩,
       ⟨(some 14), .mv (.t 41), none, [41], [], []⟩,
       ⟨(some 15), .mv (.t 42), none, [42], [], []⟩,
       ⟨(some 16), .mv (.t 43), none, [43], [], []⟩])
      (.seq (.reg [⟨(some 44), .mv (.t 10), none, [], [], []⟩,
        ⟨(some 45), .mv (.t 15), none, [15], [], []⟩,
        ⟨(some 46), .mv (.t 16), none, [16], [], []⟩,
        ⟨(some 47), .callv (.t 44) [.t 45, .t 46], none, [44, 45, 46, 47], [], []⟩])
       (.seq (.reg [⟨(some 49), .mv (.t 11), none, [], [], []⟩,
         ⟨(some 50), .callv (.t 49) [], none, [49], [], []⟩,
         ⟨(some 48), .mv (.t 50), none, [50], [], []⟩,
         ⟨(some 51), .ext (.t 48) 0, none, [], [], []⟩,
         ⟨(some 52), .ext (.t 48) 1, none, [48, 52], [], []⟩,
         ⟨(some 12), .mv (.t 51), none, [51], [], []⟩])
        (.seq (.reg [⟨(some 54), .mv (.t 12), none, [12], [], []⟩,
          ⟨(some 55), .call 60 [.t 54], none, [54], [], []⟩,
          ⟨(some 53), .mv (.t 55), none, [55], [], []⟩,
          ⟨(some 56), .ext (.t 53) 0, none, [], [], []⟩,
          ⟨(some 57), .ext (.t 53) 1, none, [], [], []⟩,
          ⟨(some 58), .ext (.t 53) 2, none, [53], [], []⟩,
          ⟨(some 17), .mv (.t 56), none, [56], [], []⟩,
          ⟨(some 15), .mv (.t 57), none, [57], [], []⟩,
          ⟨(some 16), .mv (.t 58), none, [58], [], []⟩])
         (.seq (.reg [⟨(some 59), .mv (.t 10), none, [], [], []⟩,
           ⟨(some 60), .mv (.t 15), none, [15], [], []⟩,
           ⟨(some 61), .mv (.t 16), none, [16], [], []⟩,
           ⟨(some 62), .callv (.t 59) [.t 60, .t 61], none, [59, 60, 61, 62], [], []⟩])
          (.seq (.reg [⟨(some 64), .mv (.t 11), none, [], [], []⟩,
            ⟨(some 65), .callv (.t 64) [], none, [64], [], []⟩,
            ⟨(some 63), .mv (.t 65), none, [65], [], []⟩,
            ⟨(some 66), .ext (.t 63) 0, none, [], [], []⟩,
            ⟨(some 67), .ext (.t 63) 1, none, [63, 67], [], []⟩,
            ⟨(some 12), .mv (.t 66), none, [66], [], []⟩])
           (.seq (.reg [⟨(some 69), .mv (.t 12), none, [12], [], []⟩,
             ⟨(some 70), .call 61 [.t 69], none, [69], [], []⟩,
             ⟨(some 68), .mv (.t 70), none, [70], [], []⟩,
             ⟨(some 71), .ext (.t 68) 0, none, [], [], []⟩,
             ⟨(some 72), .ext (.t 68) 1, none, [], [], []⟩,
             ⟨(some 73), .ext (.t 68) 2, none, [68], [], []⟩,
             ⟨(some 18), .mv (.t 71), none, [71], [], []⟩,
             ⟨(some 15), .mv (.t 72), none, [72], [], []⟩,
             ⟨(some 16), .mv (.t 73), none, [73], [], []⟩])
            (.seq (.reg [⟨(some 74), .mv (.t 10), none, [10], [], []⟩,
              ⟨(some 75), .mv (.t 15), none, [15], [], []⟩,
              ⟨(some 76), .mv (.t 16), none, [16], [], []⟩,
              ⟨(some 77), .callv (.t 74) [.t 75, .t 76], none, [74, 75, 76, 77], [], []⟩])
             (.seq (.reg [⟨(some 79), .mv (.t 11), none, [11], [], []⟩,
               ⟨(some 80), .callv (.t 79) [], none, [79], [], []⟩,
               ⟨(some 78), .mv (.t 80), none, [80], [], []⟩,
               ⟨(some 81), .ext (.t 78) 0, none, [], [], []⟩,
               ⟨(some 82), .ext (.t 78) 1, none, [78], [], []⟩,
               ⟨(some 12), .mv (.t 81), none, [81], [], []⟩,
               ⟨(some 16), .mv (.t 82), none, [82], [], []⟩])
              (.seq (.block 1 (.seq (.reg [⟨(some 84), .mv (.t 16), none, [], [], []⟩,
                  ⟨(some 85), .bin .neq (.t 84) (.c (.int .i64 0)), none, [84], [], []⟩,
                  ⟨(some 83), .mv (.t 85), none, [85], [], []⟩])
                 (.cond (.t 83) (.seq (.reg [⟨(some 86), .mv (.t 16), none, [16], [], []⟩,
                    ⟨(some 8), .mv (.c (.int .i64 0)), none, [], [], []⟩,
                    ⟨(some 9), .mv (.t 86), none, [86], [], []⟩])
                   (.ret))
                  (.seq (.reg [⟨(some 88), .mv (.t 12), none, [12], [], []⟩,
                    ⟨(some 89), .len false (.t 88), none, [88], [], []⟩,
                    ⟨(some 90), .bin .gtr (.t 89) (.c (.int .i64 0)), none, [89], [], []⟩,
                    ⟨(some 91), .mv (.t 90), none, [90], [], []⟩,
                    ⟨(some 92), .mv (.t 14), (some (91, false)), [], [], []⟩,
                    ⟨(some 93), .bin .lss (.t 92) (.c (.int .i64 0)), (some (91, false)), [92], [], []⟩,
                    ⟨(some 94), .pick (.t 91) (.c (.bool true)) (.t 93), none, [91, 93], [], []⟩,
                    ⟨(some 95), .mv (.t 94), none, [94], [], []⟩,
                    ⟨(some 96), .mv (.t 14), (some (95, false)), [], [], []⟩,
                    ⟨(some 97), .mv (.t 1), (some (95, false)), [], [], []⟩,
                    ⟨(some 98), .bin .shl (.c (.int .i64 1)) (.t 97), (some (95, false)), [97], [], []⟩,
                    ⟨(some 99), .bin .geq (.t 96) (.t 98), (some (95, false)), [96, 98], [], []⟩,
                    ⟨(some 100), .pick (.t 95) (.c (.bool true)) (.t 99), none, [95, 99], [], []⟩,
                    ⟨(some 101), .mv (.t 100), none, [100], [], []⟩,
                    ⟨(some 102), .mv (.t 18), (some (101, false)), [], [], []⟩,
                    ⟨(some 103), .len false (.t 102), (some (101, false)), [102], [], []⟩,
                    ⟨(some 104), .mv (.t 1), (some (101, false)), [], [], []⟩,
                    ⟨(some 105), .bin .neq (.t 103) (.t 104), (some (101, false)), [103, 104], [], []⟩,
                    ⟨(some 106), .pick (.t 101) (.c (.bool true)) (.t 105), none, [101, 105], [], []⟩,
                    ⟨(some 87), .mv (.t 106), none, [106], [], []⟩])
                   (.cond (.t 87) (.seq (.reg [⟨(some 8), .mv (.c (.int .i64 0)), none, [], [], []⟩,
                      ⟨(some 9), .mv (.c (.int .i64 6)), none, [], [], []⟩])
                     (.ret))
                    (.skip))))))
               (.seq (.reg [⟨(some 108), .load (some 16) (.t 4), none, [], [], []⟩,
                 ⟨(some 109), .mv (.t 14), none, [], [], []⟩,
                 ⟨(some 110), .mv (.t 2), none, [2], [], []⟩,
                 ⟨(some 111), .callp 63 [.t 108, .t 109, .t 110], none, [108, 109, 110], [], []⟩,
                 ⟨(some 112), .mv (.t 17), none, [17], [], []⟩,
                 ⟨(some 113), .callp 62 [.t 111, .t 112], none, [111, 112], [], []⟩,
                 ⟨(some 107), .mv (.t 113), none, [113], [], []⟩,
                 ⟨(some 114), .ext (.t 107) 0, none, [], [], []⟩,
                 ⟨(some 115), .ext (.t 107) 1, none, [107], [], []⟩,
                 ⟨(some 19), .new 36 [.int .u8 0, .int .u8 0, .int .u8 0, .int .u8 0, .int .u8 0, .int .u8 0, .int .u8 0, .int .u8 0, .int .u8 0, .int .u8 0, .int .u8 0, .int .u8 0, .int .u8 0, .int .u8 0, .int .u8 0, .int .u8 0], none, [], [], []⟩,
                 ⟨none, .store 16 (.t 19) (.t 114), none, [114], [], []⟩,
                 ⟨(some 16), .mv (.t 115), none, [115], [], []⟩])
                (.seq (.seq (.regP 9 [⟨(some 116), .mv (.t 16), none, [], [], []⟩,
                   ⟨(some 117), .bin .neq (.t 116) (.c (.int .i64 0)), none, [], [0], []⟩,
                   ⟨(some 118), .mv (.t 117), none, [], [0, 1], []⟩,
                   ⟨(some 119), .load (some 16) (.t 4), (some (118, false)), [], [0, 1, 2], [120, 121, 122, 123, 124]⟩,
                   ⟨(some 120), .mv (.t 1), (some (118, false)), [], [0, 1, 2], [119, 122, 123, 124]⟩,
                   ⟨(some 121), .bin .shl (.c (.int .i64 1)) (.t 120), (some (118, false)), [], [0, 1, 2, 4], [119, 122, 123, 124]⟩,
                   ⟨(some 122), .mv (.t 14), (some (118, false)), [], [0, 1, 2], [119, 120, 121, 123, 124]⟩,
                   ⟨(some 123), .load (some 16) (.t 19), (some (118, false)), [], [0, 1, 2], [119, 120, 121, 122, 124]⟩,
                   ⟨(some 124), .mv (.t 18), (some (118, false)), [1, 4, 16, 18, 19, 116, 117, 120], [0, 1, 2], [119, 120, 121, 122, 123]⟩,
                   ⟨(some 125), .call 64 [.t 119, .t 121, .t 122, .t 123, .t 124], (some (118, false)), [119, 121, 122, 123, 124], [0, 1, 2, 3, 4, 5, 6, 7, 8], []⟩,
                   ⟨(some 126), .un .not (.t 125), (some (118, false)), [125], [0, 1, 2, 3, 4, 5, 6, 7, 8, 9], []⟩,
                   ⟨(some 127), .pick (.t 118) (.c (.bool true)) (.t 126), none, [118, 126], [0, 1, 2, 3, 4, 5, 6, 7, 8, 9, 10], []⟩])
                  (.cond (.t 127) (.seq (.reg [⟨(some 8), .mv (.c (.int .i64 0)), none, [], [], []⟩,
                     ⟨(some 9), .mv (.c (.int .i64 8)), none, [], [], []⟩])
                    (.ret))
                   (.skip)))
                 (.seq (.reg [⟨(some 128), .mv (.t 14), none, [14], [], []⟩,
                   ⟨(some 8), .mv (.t 128), none, [128], [], []⟩,
                   ⟨(some 9), .mv (.c (.int .i64 0)), none, [], [], []⟩])
                  (.ret)))))))))))))))))⟩
theorem chk41 : chkF Tryd.prog 41 sf41 = true := by kernel_rfl
/-- custody/wire.GetInts -/
def sf43 : SF := ⟨45, [.t 2, .t 3, .t 4],
 .seq (.reg [⟨(some 2), .mv (.c (.val (.slice none 0 0))), none, [2], [], []⟩,
   ⟨(some 3), .mv (.c (.int .i64 0)), none, [3], [], []⟩,
   ⟨(some 4), .mv (.c (.int .i64 0)), none, [4], [], []⟩])
  (.seq (.reg [⟨(some 14), .mv (.t 0), none, [], [], []⟩,
    ⟨(some 15), .call 69 [.t 14, .c (.int .i64 1)], none, [14], [], []⟩,
    ⟨(some 13), .mv (.t 15), none, [15], [], []⟩,
    ⟨(some 16), .ext (.t 13) 0, none, [], [], []⟩,
    ⟨(some 17), .ext (.t 13) 1, none, [], [], []⟩,
    ⟨(some 18), .ext (.t 13) 2, none, [13], [], []⟩,
    ⟨(some 5), .mv (.t 16), none, [16], [], []⟩,
    ⟨(some 6), .mv (.t 17), none, [17], [], []⟩,
    ⟨(some 7), .mv (.t 18), none, [18], [], []⟩])
   (.seq (.seq (.reg [⟨(some 19), .mv (.t 7), none, [], [], []⟩,
      ⟨(some 20), .bin .neq (.t 19) (.c (.int .i64 0)), none, [19], [], []⟩])
     (.cond (.t 20) (.seq (.reg [⟨(some 21), .mv (.t 7), none, [7], [], []⟩,
        ⟨(some 2), .mv (.c (.val (.slice none 0 0))), none, [], [], []⟩,
        ⟨(some 3), .mv (.c (.int .i64 0)), none, [], [], []⟩,
        ⟨(some 4), .mv (.t 21), none, [21], [], []⟩])
       (.ret))
      (.skip)))
    (.seq (.reg [⟨(some 22), .mv (.t 0), none, [0], [], []⟩,
      ⟨(some 23), .mv (.t 6), none, [], [], []⟩,
      ⟨(some 24), .call 70 [.t 22, .t 23], none, [22, 23], [], []⟩,
      ⟨(some 8), .mv (.t 24), none, [24], [], []⟩])
     (.seq (.reg [⟨(some 9), .mv (.c (.val (.slice none 0 0))), none, [], [], []⟩])
      (.seq (.seq (.reg [⟨(some 25), .mv (.t 5), none, [5], [], []⟩,
         ⟨(some 26), .mv (.c (.int .i64 0)), none, [], [], []⟩])
        (.block 0 (.loop (.seq (.reg [⟨(some 27), .bin .lss (.t 26) (.t 25), none, [], [], []⟩])
           (.seq (.cond (.t 27) (.skip)
             (.exit 0))
            (.seq (.block 1 (.seq (.reg [⟨(some 29), .mv (.t 8), none, [], [], []⟩,
                ⟨(some 30), .callv (.t 29) [], none, [29], [], []⟩,
                ⟨(some 28), .mv (.t 30), none, [30], [], []⟩,
                ⟨(some 31), .ext (.t 28) 0, none, [], [], []⟩,
                ⟨(some 32), .ext (.t 28) 1, none, [], [], []⟩,
                ⟨(some 33), .ext (.t 28) 2, none, [28], [], []⟩,
                ⟨(some 10), .mv (.t 31), none, [31], [], []⟩,
                ⟨(some 11), .mv (.t 32), none, [32], [], []⟩,
                ⟨(some 12), .mv (.t 33), none, [33], [], []⟩])
               (.seq (.seq (.reg [⟨(some 34), .mv (.t 12), none, [], [], []⟩,
                  ⟨(some 35), .bin .neq (.t 34) (.c (.int .i64 0)), none, [34], [], []⟩])
                 (.cond (.t 35) (.seq (.reg [⟨(some 36), .mv (.t 12), none, [12], [], []⟩,
                    ⟨(some 2), .mv (.c (.val (.slice none 0 0))), none, [], [], []⟩,
                    ⟨(some 3), .mv (.c (.int .i64 0)), none, [], [], []⟩,
                    ⟨(some 4), .mv (.t 36), none, [36], [], []⟩])
                   (.ret))
                  (.skip)))
                (.reg [⟨(some 37), .mv (.t 9), none, [9], [], []⟩,
                 ⟨(some 38), .mv (.t 10), none, [10], [], []⟩,
                 ⟨(some 39), .bslice 3 1 1 [.int .i64 0] [(0, 1, .t 38)], none, [38], [], []⟩,
                 ⟨(some 40), .app 3 1 8 (.t 37) (.t 39), none, [37, 39], [], []⟩,
                 ⟨(some 41), .mv (.t 11), none, [11], [], []⟩,
                 ⟨(some 9), .mv (.t 40), none, [40], [], []⟩,
                 ⟨(some 6), .mv (.t 41), none, [41], [], []⟩]))))
             (.reg [⟨(some 42), .bin .add (.t 26) (.c (.int .i64 1)), none, [26], [], []⟩,
              ⟨(some 26), .mv (.t 42), none, [42], [], []⟩])))))))
       (.seq (.reg [⟨(some 43), .mv (.t 9), none, [9], [], []⟩,
         ⟨(some 44), .mv (.t 6), none, [6], [], []⟩,
         ⟨(some 2), .mv (.t 43), none, [43], [], []⟩,
         ⟨(some 3), .mv (.t 44), none, [44], [], []⟩,
         ⟨(some 4), .mv (.c (.int .i64 0)), none, [], [], []⟩])
        (.ret)))))))⟩
theorem chk43 : chkF Tryd.prog 43 sf43 = true := by kernel_rfl
/-- (*custody/custodian.reader).done -/
def sf44 : SF := ⟨30, [.t 6],
 .seq (.reg [⟨(some 6), .mv (.c (.bool false)), none, [6], [], []⟩])
  (.seq (.seq (.reg [⟨(some 7), .mv (.t 0), none, [], [], []⟩,
     ⟨(some 8), .nilc (.t 7), none, [7], [], []⟩,
     ⟨(some 9), .fld (.t 8) 1, none, [8], [], []⟩,
     ⟨(some 10), .load none (.t 9), none, [9], [], []⟩,
     ⟨(some 11), .bin .eql (.t 10) (.c (.int .i64 0)), none, [10], [], []⟩])
    (.cond (.t 11) (.reg [⟨(some 12), .mv (.t 0), none, [], [], []⟩,
      ⟨(some 13), .mv (.t 2), none, [2], [], []⟩,
      ⟨(some 14), .nilc (.t 12), none, [12], [], []⟩,
      ⟨(some 15), .fld (.t 14) 1, none, [14], [], []⟩,
      ⟨none, .store 1 (.t 15) (.t 13), none, [13, 15], [], []⟩])
     (.skip)))
   (.seq (.seq (.reg [⟨(some 16), .mv (.t 0), none, [], [], []⟩,
      ⟨(some 17), .nilc (.t 16), none, [16], [], []⟩,
      ⟨(some 18), .fld (.t 17) 1, none, [17], [], []⟩,
      ⟨(some 19), .load none (.t 18), none, [18], [], []⟩,
      ⟨(some 20), .bin .neq (.t 19) (.c (.int .i64 0)), none, [19], [], []⟩])
     (.cond (.t 20) (.seq (.reg [⟨(some 6), .mv (.c (.bool false)), none, [], [], []⟩])
       (.ret))
      (.skip)))
    (.seq (.reg [⟨(some 21), .mv (.t 0), none, [], [], []⟩,
      ⟨(some 22), .mv (.t 0), none, [0], [], []⟩,
      ⟨(some 23), .nilc (.t 22), none, [22], [], []⟩,
      ⟨(some 24), .fld (.t 23) 0, none, [23], [], []⟩,
      ⟨(some 25), .load none (.t 24), none, [24], [], []⟩,
      ⟨(some 26), .mv (.t 1), none, [1], [], []⟩,
      ⟨(some 27), .slcS 1 (.t 25) (some (.t 26)) none, none, [25, 26], [], []⟩,
      ⟨(some 28), .nilc (.t 21), none, [21], [], []⟩,
      ⟨(some 29), .fld (.t 28) 0, none, [28], [], []⟩,
      ⟨none, .store 1 (.t 29) (.t 27), none, [27, 29], [], []⟩])
     (.seq (.reg [⟨(some 6), .mv (.c (.bool true)), none, [], [], []⟩])
      (.ret)))))⟩
theorem chk44 : chkF Tryd.prog 44 sf44 = true := by kernel_rfl
/-- (*custody/custodian.reader).name -/
def sf45 : SF := ⟨24, [],
 .seq (.reg [⟨(some 8), .mv (.t 0), none, [], [], []⟩,
   ⟨(some 9), .nilc (.t 8), none, [8], [], []⟩,
   ⟨(some 10), .fld (.t 9) 0, none, [9], [], []⟩,
   ⟨(some 11), .load none (.t 10), none, [10], [], []⟩,
   ⟨(some 12), .call 60 [.t 11], none, [11], [], []⟩,
   ⟨(some 7), .mv (.t 12), none, [12], [], []⟩,
   ⟨(some 13), .ext (.t 7) 0, none, [], [], []⟩,
   ⟨(some 14), .ext (.t 7) 1, none, [], [], []⟩,
   ⟨(some 15), .ext (.t 7) 2, none, [7], [], []⟩,
   ⟨(some 4), .mv (.t 13), none, [13], [], []⟩,
   ⟨(some 5), .mv (.t 14), none, [14], [], []⟩,
   ⟨(some 6), .mv (.t 15), none, [15], [], []⟩])
  (.seq (.reg [⟨(some 16), .mv (.t 0), none, [0], [], []⟩,
    ⟨(some 17), .mv (.t 5), none, [5], [], []⟩,
    ⟨(some 18), .mv (.t 6), none, [6], [], []⟩,
    ⟨(some 19), .call 44 [.t 16, .t 17, .t 18], none, [16, 17, 18], [], []⟩])
   (.cond (.t 19) (.reg [⟨(some 20), .mv (.t 1), none, [1], [], []⟩,
     ⟨(some 21), .mv (.t 4), none, [4], [], []⟩,
     ⟨(some 22), .nilc (.t 20), none, [20], [], []⟩,
     ⟨(some 23), .fld (.t 22) 0, none, [22], [], []⟩,
     ⟨none, .store 1 (.t 23) (.t 21), none, [21, 23], [], []⟩])
    (.skip)))⟩
theorem chk45 : chkF Tryd.prog 45 sf45 = true := by kernel_rfl
/-- (*custody/custodian.reader).public -/
def sf46 : SF := ⟨43, [],
 .seq (.seq (.reg [⟨(some 4), .mv (.t 0), none, [], [], []⟩,
    ⟨(some 5), .nilc (.t 4), none, [4], [], []⟩,
    ⟨(some 6), .fld (.t 5) 1, none, [5], [], []⟩,
    ⟨(some 7), .load none (.t 6), none, [6], [], []⟩,
    ⟨(some 8), .bin .eql (.t 7) (.c (.int .i64 0)), none, [7], [], []⟩,
    ⟨(some 9), .mv (.t 8), none, [8], [], []⟩,
    ⟨(some 10), .mv (.t 0), (some (9, true)), [], [], []⟩,
    ⟨(some 11), .nilc (.t 10), (some (9, true)), [10], [], []⟩,
    ⟨(some 12), .fld (.t 11) 0, (some (9, true)), [11], [], []⟩,
    ⟨(some 13), .load none (.t 12), (some (9, true)), [12], [], []⟩,
    ⟨(some 14), .len false (.t 13), (some (9, true)), [13], [], []⟩,
    ⟨(some 15), .bin .lss (.t 14) (.c (.int .i64 16)), (some (9, true)), [14], [], []⟩,
    ⟨(some 16), .pick (.t 9) (.t 15) (.c (.bool false)), none, [9, 15], [], []⟩])
   (.cond (.t 16) (.reg [⟨(some 17), .mv (.t 0), none, [], [], []⟩,
     ⟨(some 18), .nilc (.t 17), none, [17], [], []⟩,
     ⟨(some 19), .fld (.t 18) 1, none, [18], [], []⟩,
     ⟨none, .store 1 (.t 19) (.c (.int .i64 5)), none, [19], [], []⟩])
    (.skip)))
  (.seq (.reg [⟨(some 20), .mv (.t 0), none, [], [], []⟩,
    ⟨(some 21), .nilc (.t 20), none, [20], [], []⟩,
    ⟨(some 22), .fld (.t 21) 1, none, [21], [], []⟩,
    ⟨(some 23), .load none (.t 22), none, [22], [], []⟩,
    ⟨(some 24), .bin .eql (.t 23) (.c (.int .i64 0)), none, [23], [], []⟩])
   (.cond (.t 24) (.seq (.reg [⟨(some 25), .mv (.t 1), none, [1], [], []⟩,
      ⟨(some 26), .mv (.t 0), none, [], [], []⟩,
      ⟨(some 27), .nilc (.t 26), none, [26], [], []⟩,
      ⟨(some 28), .fld (.t 27) 0, none, [27], [], []⟩,
      ⟨(some 29), .load none (.t 28), none, [28], [], []⟩,
      ⟨(some 30), .slcS 1 (.t 29) none (some (.c (.int .i64 16))), none, [29], [], []⟩,
      ⟨(some 31), .arrAt 16 (.t 30), none, [30], [], []⟩,
      ⟨(some 32), .load (some 16) (.t 31), none, [31], [], []⟩,
      ⟨(some 33), .nilc (.t 25), none, [25], [], []⟩,
      ⟨(some 34), .fld (.t 33) 1, none, [33], [], []⟩,
      ⟨none, .store 16 (.t 34) (.t 32), none, [32, 34], [], []⟩])
     (.reg [⟨(some 35), .mv (.t 0), none, [], [], []⟩,
      ⟨(some 36), .mv (.t 0), none, [0], [], []⟩,
      ⟨(some 37), .nilc (.t 36), none, [36], [], []⟩,
      ⟨(some 38), .fld (.t 37) 0, none, [37], [], []⟩,
      ⟨(some 39), .load none (.t 38), none, [38], [], []⟩,
      ⟨(some 40), .slcS 1 (.t 39) (some (.c (.int .i64 16))) none, none, [39], [], []⟩,
      ⟨(some 41), .nilc (.t 35), none, [35], [], []⟩,
      ⟨(some 42), .fld (.t 41) 0, none, [41], [], []⟩,
      ⟨none, .store 1 (.t 42) (.t 40), none, [40, 42], [], []⟩]))
    (.skip)))⟩
theorem chk46 : chkF Tryd.prog 46 sf46 = true := by kernel_rfl
/-- (*custody/custodian.reader).height -/
def sf47 : SF := ⟨24, [],
 .seq (.reg [⟨(some 8), .mv (.t 0), none, [], [], []⟩,
   ⟨(some 9), .nilc (.t 8), none, [8], [], []⟩,
   ⟨(some 10), .fld (.t 9) 0, none, [9], [], []⟩,
   ⟨(some 11), .load none (.t 10), none, [10], [], []⟩,
   ⟨(some 12), .call 59 [.t 11], none, [11], [], []⟩,
   ⟨(some 7), .mv (.t 12), none, [12], [], []⟩,
   ⟨(some 13), .ext (.t 7) 0, none, [], [], []⟩,
   ⟨(some 14), .ext (.t 7) 1, none, [], [], []⟩,
   ⟨(some 15), .ext (.t 7) 2, none, [7], [], []⟩,
   ⟨(some 4), .mv (.t 13), none, [13], [], []⟩,
   ⟨(some 5), .mv (.t 14), none, [14], [], []⟩,
   ⟨(some 6), .mv (.t 15), none, [15], [], []⟩])
  (.seq (.reg [⟨(some 16), .mv (.t 0), none, [0], [], []⟩,
    ⟨(some 17), .mv (.t 5), none, [5], [], []⟩,
    ⟨(some 18), .mv (.t 6), none, [6], [], []⟩,
    ⟨(some 19), .call 44 [.t 16, .t 17, .t 18], none, [16, 17, 18], [], []⟩])
   (.cond (.t 19) (.reg [⟨(some 20), .mv (.t 1), none, [1], [], []⟩,
     ⟨(some 21), .mv (.t 4), none, [4], [], []⟩,
     ⟨(some 22), .nilc (.t 20), none, [20], [], []⟩,
     ⟨(some 23), .fld (.t 22) 17, none, [22], [], []⟩,
     ⟨none, .store 1 (.t 23) (.t 21), none, [21, 23], [], []⟩])
    (.skip)))⟩
theorem chk47 : chkF Tryd.prog 47 sf47 = true := by kernel_rfl
/-- slices.Grow[[]byte,byte] -/
def sf51 : SF := ⟨27, [.t 4],
 .seq (.reg [⟨(some 4), .mv (.c (.val (.slice none 0 0))), none, [4], [], []⟩])
  (.seq (.seq (.reg [⟨(some 5), .mv (.t 1), none, [], [], []⟩,
     ⟨(some 6), .bin .lss (.t 5) (.c (.int .i64 0)), none, [5], [], []⟩])
    (.cond (.t 6) (.bad)
     (.skip)))
   (.seq (.seq (.reg [⟨(some 8), .mv (.t 1), none, [1], [], []⟩,
      ⟨(some 9), .mv (.t 0), none, [], [], []⟩,
      ⟨(some 10), .capN (.t 9), none, [9], [], []⟩,
      ⟨(some 11), .mv (.t 0), none, [], [], []⟩,
      ⟨(some 12), .len false (.t 11), none, [11], [], []⟩,
      ⟨(some 13), .bin .sub (.t 10) (.t 12), none, [10, 12], [], []⟩,
      ⟨(some 14), .bin .sub (.t 8) (.t 13), none, [8, 13], [], []⟩,
      ⟨(some 1), .mv (.t 14), none, [14], [], []⟩])
     (.seq (.reg [⟨(some 15), .mv (.t 1), none, [], [], []⟩,
       ⟨(some 16), .bin .gtr (.t 15) (.c (.int .i64 0)), none, [15], [], []⟩])
      (.cond (.t 16) (.reg [⟨(some 17), .mv (.t 0), none, [], [], []⟩,
        ⟨(some 18), .mv (.t 0), none, [], [], []⟩,
        ⟨(some 19), .capN (.t 18), none, [18], [], []⟩,
        ⟨(some 20), .slcS 1 (.t 17) none (some (.t 19)), none, [17, 19], [], []⟩,
        ⟨(some 21), .mv (.t 1), none, [1], [], []⟩,
        ⟨(some 22), .appZ 5 1 1 [.int .u8 0] (.t 20) (.t 21), none, [20, 21], [], []⟩,
        ⟨(some 23), .mv (.t 0), none, [0], [], []⟩,
        ⟨(some 24), .len false (.t 23), none, [23], [], []⟩,
        ⟨(some 25), .slcS 1 (.t 22) none (some (.t 24)), none, [22, 24], [], []⟩,
        ⟨(some 0), .mv (.t 25), none, [25], [], []⟩])
       (.skip))))
    (.seq (.reg [⟨(some 26), .mv (.t 0), none, [0], [], []⟩,
      ⟨(some 4), .mv (.t 26), none, [26], [], []⟩])
     (.ret))))⟩
theorem chk51 : chkF Tryd.prog 51 sf51 = true := by kernel_rfl
/-- custody/hash.Begin -/
def sf52 : SF := ⟨3, [.c 0 (some 73)],
 .seq (.reg [⟨(some 0), .new 86 [.int .u32 0, .int .u32 0, .int .u32 0, .int .u32 0, .int .u32 0, .int .u32 0, .int .u32 0, .int .u32 0, .int .u8 0, .int .u8 0, .int .u8 0, .int .u8 0, .int .u8 0, .int .u8 0, .int .u8 0, .int .u8 0, .int .u8 0, .int .u8 0, .int .u8 0, .int .u8 0, .int .u8 0, .int .u8 0, .int .u8 0, .int .u8 0, .int .u8 0, .int .u8 0, .int .u8 0, .int .u8 0, .int .u8 0, .int .u8 0, .int .u8 0, .int .u8 0, .int .u8 0, .int .u8 0, .int .u8 0, .int .u8 0, .int .u8 0, .int .u8 0, .int .u8 0, .int .u8 0, .int .u8 0, .int .u8 0, .int .u8 0, .int .u8 0, .int .u8 0, .int .u8 0, .int .u8 0, .int .u8 0, .int .u8 0, .int .u8 0, .int .u8 0, .int .u8 0, .int .u8 0, .int .u8 0, .int .u8 0, .int .u8 0, .int .u8 0, .int .u8 0, .int .u8 0, .int .u8 0, .int .u8 0, .int .u8 0, .int .u8 0, .int .u8 0, .int .u8 0, .int .u8 0, .int .u8 0, .int .u8 0, .int .u8 0, .int .u8 0, .int .u8 0, .int .u8 0, .int .u64 0], none, [], [], []⟩])
  (.seq (.reg [⟨(some 1), .build [.int .u32 0, .int .u32 0, .int .u32 0, .int .u32 0, .int .u32 0, .int .u32 0, .int .u32 0, .int .u32 0] [(0, 1, .c (.int .u32 1779033703)), (1, 1, .c (.int .u32 3144134277)), (2, 1, .c (.int .u32 1013904242)), (3, 1, .c (.int .u32 2773480762)), (4, 1, .c (.int .u32 1359893119)), (5, 1, .c (.int .u32 2600822924)), (6, 1, .c (.int .u32 528734635)), (7, 1, .c (.int .u32 1541459225))], none, [], [], []⟩,
    ⟨(some 2), .build [.int .u32 0, .int .u32 0, .int .u32 0, .int .u32 0, .int .u32 0, .int .u32 0, .int .u32 0, .int .u32 0, .int .u8 0, .int .u8 0, .int .u8 0, .int .u8 0, .int .u8 0, .int .u8 0, .int .u8 0, .int .u8 0, .int .u8 0, .int .u8 0, .int .u8 0, .int .u8 0, .int .u8 0, .int .u8 0, .int .u8 0, .int .u8 0, .int .u8 0, .int .u8 0, .int .u8 0, .int .u8 0, .int .u8 0, .int .u8 0, .int .u8 0, .int .u8 0, .int .u8 0, .int .u8 0, .int .u8 0, .int .u8 0, .int .u8 0, .int .u8 0, .int .u8 0, .int .u8 0, .int .u8 0, .int .u8 0, .int .u8 0, .int .u8 0, .int .u8 0, .int .u8 0, .int .u8 0, .int .u8 0, .int .u8 0, .int .u8 0, .int .u8 0, .int .u8 0, .int .u8 0, .int .u8 0, .int .u8 0, .int .u8 0, .int .u8 0, .int .u8 0, .int .u8 0, .int .u8 0, .int .u8 0, .int .u8 0, .int .u8 0, .int .u8 0, .int .u8 0, .int .u8 0, .int .u8 0, .int .u8 0, .int .u8 0, .int .u8 0, .int .u8 0, .int .u8 0, .int .u64 0] [(0, 8, .t 1)], none, [1], [], []⟩,
    ⟨none, .store 73 (.t 0) (.t 2), none, [2], [], []⟩])
   (.ret))⟩
theorem chk52 : chkF Tryd.prog 52 sf52 = true := by kernel_rfl
/-- (custody/hash.Stream).Add -/
def sf53 : SF := ⟨38, [.c 4 (some 73)],
 .seq (.reg [⟨(some 2), .box 86 (.t 0), none, [0], [], []⟩,
   ⟨(some 4), .new 86 [.int .u32 0, .int .u32 0, .int .u32 0, .int .u32 0, .int .u32 0, .int .u32 0, .int .u32 0, .int .u32 0, .int .u8 0, .int .u8 0, .int .u8 0, .int .u8 0, .int .u8 0, .int .u8 0, .int .u8 0, .int .u8 0, .int .u8 0, .int .u8 0, .int .u8 0, .int .u8 0, .int .u8 0, .int .u8 0, .int .u8 0, .int .u8 0, .int .u8 0, .int .u8 0, .int .u8 0, .int .u8 0, .int .u8 0, .int .u8 0, .int .u8 0, .int .u8 0, .int .u8 0, .int .u8 0, .int .u8 0, .int .u8 0, .int .u8 0, .int .u8 0, .int .u8 0, .int .u8 0, .int .u8 0, .int .u8 0, .int .u8 0, .int .u8 0, .int .u8 0, .int .u8 0, .int .u8 0, .int .u8 0, .int .u8 0, .int .u8 0, .int .u8 0, .int .u8 0, .int .u8 0, .int .u8 0, .int .u8 0, .int .u8 0, .int .u8 0, .int .u8 0, .int .u8 0, .int .u8 0, .int .u8 0, .int .u8 0, .int .u8 0, .int .u8 0, .int .u8 0, .int .u8 0, .int .u8 0, .int .u8 0, .int .u8 0, .int .u8 0, .int .u8 0, .int .u8 0, .int .u64 0], none, [], [], []⟩])
  (.seq (.block 0 (.loop (.seq (.seq (.reg [⟨(some 7), .mv (.t 1), none, [], [], []⟩,
        ⟨(some 8), .bin .neq (.t 7) (.c (.str [])), none, [7], [], []⟩])
       (.cond (.t 8) (.skip)
        (.exit 0)))
      (.block 1 (.seq (.reg [⟨(some 9), .fld (.t 2) 72, none, [], [], []⟩,
         ⟨(some 10), .load none (.t 9), none, [9], [], []⟩,
         ⟨(some 11), .bin .rem (.t 10) (.c (.int .u64 64)), none, [10], [], []⟩,
         ⟨(some 12), .conv .i64 (.t 11), none, [11], [], []⟩,
         ⟨(some 5), .mv (.t 12), none, [12], [], []⟩])
        (.seq (.reg [⟨(some 13), .fld (.t 2) 8, none, [], [], []⟩,
          ⟨(some 14), .mv (.t 5), none, [], [], []⟩,
          ⟨(some 15), .slcA 64 1 (.t 13) (some (.t 14)) none, none, [13, 14], [], []⟩,
          ⟨(some 16), .mv (.t 1), none, [], [], []⟩,
          ⟨(some 17), .copy 1 (.t 15) (.t 16), none, [15, 16], [], []⟩,
          ⟨(some 6), .mv (.t 17), none, [17], [], []⟩])
         (.seq (.reg [⟨(some 18), .mv (.t 1), none, [1], [], []⟩,
           ⟨(some 19), .mv (.t 6), none, [], [], []⟩,
           ⟨(some 20), .slcT (.t 18) (some (.t 19)) none, none, [18, 19], [], []⟩,
           ⟨(some 1), .mv (.t 20), none, [20], [], []⟩])
          (.seq (.reg [⟨(some 21), .fld (.t 2) 72, none, [], [], []⟩,
            ⟨(some 22), .load none (.t 21), none, [21], [], []⟩,
            ⟨(some 23), .mv (.t 6), none, [], [], []⟩,
            ⟨(some 24), .conv .u64 (.t 23), none, [23], [], []⟩,
            ⟨(some 25), .bin .add (.t 22) (.t 24), none, [22, 24], [], []⟩,
            ⟨(some 26), .fld (.t 2) 72, none, [], [], []⟩,
            ⟨none, .store 1 (.t 26) (.t 25), none, [25, 26], [], []⟩])
           (.seq (.reg [⟨(some 27), .mv (.t 5), none, [5], [], []⟩,
             ⟨(some 28), .mv (.t 6), none, [6], [], []⟩,
             ⟨(some 29), .bin .add (.t 27) (.t 28), none, [27, 28], [], []⟩,
             ⟨(some 30), .bin .eql (.t 29) (.c (.int .i64 64)), none, [29], [], []⟩])
            (.cond (.t 30) (.regD 4 [⟨(some 31), .fld (.t 2) 0, none, [], [], [33, 34]⟩,
              ⟨(some 32), .load (some 8) (.t 31), none, [], [0], [33, 34]⟩,
              ⟨(some 33), .fld (.t 2) 8, none, [], [], [31, 32]⟩,
              ⟨(some 34), .slcA 64 1 (.t 33) none none, none, [31, 33], [2], [31, 32]⟩,
              ⟨(some 35), .call 73 [.t 32, .t 34], none, [32, 34], [0, 1, 2, 3], []⟩,
              ⟨(some 36), .fld (.t 2) 0, none, [], [0, 1, 2, 3, 4], []⟩,
              ⟨none, .store 8 (.t 36) (.t 35), none, [35, 36], [0, 1, 2, 3, 4, 5], []⟩])
             (.skip)))))))))))
   (.seq (.reg [⟨(some 37), .load (some 73) (.t 2), none, [2], [], []⟩,
     ⟨none, .store 73 (.t 4) (.t 37), none, [37], [], []⟩])
    (.ret)))⟩
theorem chk53 : chkF Tryd.prog 53 sf53 = true := by kernel_rfl
/-- (custody/hash.Stream).Sum -/
def sf54 : SF := ⟨58, [.c 2 (some 32)],
 .seq (.reg [⟨(some 1), .box 86 (.t 0), none, [0], [], []⟩,
   ⟨(some 2), .new 89 [.int .u8 0, .int .u8 0, .int .u8 0, .int .u8 0, .int .u8 0, .int .u8 0, .int .u8 0, .int .u8 0, .int .u8 0, .int .u8 0, .int .u8 0, .int .u8 0, .int .u8 0, .int .u8 0, .int .u8 0, .int .u8 0, .int .u8 0, .int .u8 0, .int .u8 0, .int .u8 0, .int .u8 0, .int .u8 0, .int .u8 0, .int .u8 0, .int .u8 0, .int .u8 0, .int .u8 0, .int .u8 0, .int .u8 0, .int .u8 0, .int .u8 0, .int .u8 0], none, [], [], []⟩])
  (.seq (.reg [⟨(some 8), .fld (.t 1) 72, none, [], [], []⟩,
    ⟨(some 9), .load none (.t 8), none, [8], [], []⟩,
    ⟨(some 10), .bin .mul (.c (.int .u64 8)) (.t 9), none, [9], [], []⟩,
    ⟨(some 3), .mv (.t 10), none, [10], [], []⟩])
   (.seq (.reg [⟨(some 11), .bslice 5 1 1 [.int .u8 0] [(0, 1, .c (.int .u8 128))], none, [], [], []⟩,
     ⟨(some 4), .mv (.t 11), none, [11], [], []⟩])
    (.seq (.block 0 (.loop (.seq (.seq (.reg [⟨(some 12), .fld (.t 1) 72, none, [], [], []⟩,
          ⟨(some 13), .load none (.t 12), none, [12], [], []⟩,
          ⟨(some 14), .conv .i64 (.t 13), none, [13], [], []⟩,
          ⟨(some 15), .mv (.t 4), none, [], [], []⟩,
          ⟨(some 16), .len false (.t 15), none, [15], [], []⟩,
          ⟨(some 17), .bin .add (.t 14) (.t 16), none, [14, 16], [], []⟩,
          ⟨(some 18), .bin .rem (.t 17) (.c (.int .i64 64)), none, [17], [], []⟩,
          ⟨(some 19), .bin .neq (.t 18) (.c (.int .i64 56)), none, [18], [], []⟩])
         (.cond (.t 19) (.skip)
          (.exit 0)))
        (.block 1 (.reg [⟨(some 20), .mv (.t 4), none, [4], [], []⟩,
          ⟨(some 21), .bslice 5 1 1 [.int .u8 0] [(0, 1, .c (.int .u8 0))], none, [], [], []⟩,
          ⟨(some 22), .app 5 1 1 (.t 20) (.t 21), none, [20, 21], [], []⟩,
          ⟨(some 4), .mv (.t 22), none, [22], [], []⟩])))))
     (.seq (.seq (.reg [⟨(some 23), .mv (.c (.int .i64 0)), none, [], [], []⟩])
       (.block 2 (.loop (.seq (.reg [⟨(some 24), .bin .lss (.t 23) (.c (.int .i64 8)), none, [], [], []⟩])
          (.seq (.cond (.t 24) (.skip)
            (.exit 2))
           (.seq (.block 3 (.seq (.reg [⟨(some 25), .mv (.t 23), none, [], [], []⟩,
               ⟨(some 5), .mv (.t 25), none, [25], [], []⟩])
              (.reg [⟨(some 26), .mv (.t 4), none, [4], [], []⟩,
               ⟨(some 27), .mv (.t 3), none, [], [], []⟩,
               ⟨(some 28), .mv (.t 5), none, [5], [], []⟩,
               ⟨(some 29), .bin .mul (.c (.int .i64 8)) (.t 28), none, [28], [], []⟩,
               ⟨(some 30), .bin .sub (.c (.int .i64 56)) (.t 29), none, [29], [], []⟩,
               ⟨(some 31), .bin .shr (.t 27) (.t 30), none, [27, 30], [], []⟩,
               ⟨(some 32), .conv .u8 (.t 31), none, [31], [], []⟩,
               ⟨(some 33), .bslice 5 1 1 [.int .u8 0] [(0, 1, .t 32)], none, [32], [], []⟩,
               ⟨(some 34), .app 5 1 1 (.t 26) (.t 33), none, [26, 33], [], []⟩,
               ⟨(some 4), .mv (.t 34), none, [34], [], []⟩])))
            (.reg [⟨(some 35), .bin .add (.t 23) (.c (.int .i64 1)), none, [23], [], []⟩,
             ⟨(some 23), .mv (.t 35), none, [35], [], []⟩])))))))
      (.seq (.reg [⟨(some 36), .load (some 73) (.t 1), none, [], [], []⟩,
        ⟨(some 37), .mv (.t 4), none, [4], [], []⟩,
        ⟨(some 38), .b2s (.t 37), none, [37], [], []⟩,
        ⟨(some 39), .callp 53 [.t 36, .t 38], none, [36, 38], [], []⟩,
        ⟨none, .store 73 (.t 1) (.t 39), none, [39], [], []⟩])
       (.seq (.reg [⟨(some 6), .new 89 [.int .u8 0, .int .u8 0, .int .u8 0, .int .u8 0, .int .u8 0, .int .u8 0, .int .u8 0, .int .u8 0, .int .u8 0, .int .u8 0, .int .u8 0, .int .u8 0, .int .u8 0, .int .u8 0, .int .u8 0, .int .u8 0, .int .u8 0, .int .u8 0, .int .u8 0, .int .u8 0, .int .u8 0, .int .u8 0, .int .u8 0, .int .u8 0, .int .u8 0, .int .u8 0, .int .u8 0, .int .u8 0, .int .u8 0, .int .u8 0, .int .u8 0, .int .u8 0], none, [], [], []⟩])
        (.seq (.seq (.reg [⟨(some 40), .mv (.c (.int .i64 0)), none, [], [], []⟩])
          (.block 4 (.loop (.seq (.reg [⟨(some 41), .bin .lss (.t 40) (.c (.int .i64 32)), none, [], [], []⟩])
             (.seq (.cond (.t 41) (.skip)
               (.exit 4))
              (.seq (.block 5 (.seq (.reg [⟨(some 42), .mv (.t 40), none, [], [], []⟩,
                  ⟨(some 7), .mv (.t 42), none, [42], [], []⟩])
                 (.reg [⟨(some 43), .mv (.t 7), none, [], [], []⟩,
                  ⟨(some 44), .mv (.t 7), none, [], [], []⟩,
                  ⟨(some 45), .bin .quo (.t 44) (.c (.int .i64 4)), none, [44], [], []⟩,
                  ⟨(some 46), .fld (.t 1) 0, none, [], [], []⟩,
                  ⟨(some 47), .idxA (.t 46) (.t 45) 8 1, none, [45, 46], [], []⟩,
                  ⟨(some 48), .load none (.t 47), none, [47], [], []⟩,
                  ⟨(some 49), .mv (.t 7), none, [7], [], []⟩,
                  ⟨(some 50), .bin .rem (.t 49) (.c (.int .i64 4)), none, [49], [], []⟩,
                  ⟨(some 51), .bin .mul (.c (.int .i64 8)) (.t 50), none, [50], [], []⟩,
                  ⟨(some 52), .bin .sub (.c (.int .i64 24)) (.t 51), none, [51], [], []⟩,
                  ⟨(some 53), .bin .shr (.t 48) (.t 52), none, [48, 52], [], []⟩,
                  ⟨(some 54), .conv .u8 (.t 53), none, [53], [], []⟩,
                  ⟨(some 55), .idxA (.t 6) (.t 43) 32 1, none, [43], [], []⟩,
                  ⟨none, .store 1 (.t 55) (.t 54), none, [54, 55], [], []⟩])))
               (.reg [⟨(some 56), .bin .add (.t 40) (.c (.int .i64 1)), none, [40], [], []⟩,
                ⟨(some 40), .mv (.t 56), none, [56], [], []⟩])))))))
         (.seq (.reg [⟨(some 57), .load (some 32) (.t 6), none, [6], [], []⟩,
           ⟨none, .store 32 (.t 2) (.t 57), none, [57], [], []⟩])
          (.ret)))))))))⟩
theorem chk54 : chkF Tryd.prog 54 sf54 = true := by kernel_rfl
/-- custody/treesig.isHeight -/
def sf57 : SF := ⟨9, [.t 2],
 .seq (.reg [⟨(some 2), .mv (.c (.bool false)), none, [2], [], []⟩])
  (.seq (.reg [⟨(some 3), .mv (.t 0), none, [], [], []⟩,
    ⟨(some 4), .bin .geq (.t 3) (.c (.int .i64 0)), none, [3], [], []⟩,
    ⟨(some 5), .mv (.t 4), none, [4], [], []⟩,
    ⟨(some 6), .mv (.t 0), (some (5, true)), [0], [], []⟩,
    ⟨(some 7), .bin .leq (.t 6) (.c (.int .i64 6)), (some (5, true)), [6], [], []⟩,
    ⟨(some 8), .pick (.t 5) (.t 7) (.c (.bool false)), none, [5, 7], [], []⟩,
    ⟨(some 2), .mv (.t 8), none, [8], [], []⟩])
   (.ret))⟩
theorem chk57 : chkF Tryd.prog 57 sf57 = true := by kernel_rfl
/-- custody/treesig.reader -/
def sf58 : SF := ⟨12, [.t 2, .t 3],
 .seq (.reg [⟨(some 2), .mv (.c (.val .nilFunc)), none, [2], [], []⟩,
   ⟨(some 3), .mv (.c (.val .nilFunc)), none, [3], [], []⟩])
  (.seq (.reg [⟨(some 7), .mv (.t 0), none, [0], [], []⟩,
    ⟨(some 8), .s2b 5 (.t 7), none, [7], [], []⟩,
    ⟨(some 4), .new 56 [.val (.slice none 0 0)], none, [], [], []⟩,
    ⟨(some 5), .new 27 [.int .i64 0], none, [], [], []⟩,
    ⟨none, .store 1 (.t 4) (.t 8), none, [8], [], []⟩,
    ⟨none, .store 1 (.t 5) (.c (.int .i64 0)), none, [], [], []⟩])
   (.seq (.reg [⟨(some 9), .mkfn 75 [] [.t 5, .t 4], none, [], [], []⟩,
     ⟨(some 6), .mv (.t 9), none, [9], [], []⟩])
    (.seq (.reg [⟨(some 10), .mv (.t 6), none, [6], [], []⟩,
      ⟨(some 11), .mkfn 76 [] [.t 4, .t 5], none, [4, 5], [], []⟩,
      ⟨(some 2), .mv (.t 10), none, [10], [], []⟩,
      ⟨(some 3), .mv (.t 11), none, [11], [], []⟩])
     (.ret))))⟩
theorem chk58 : chkF Tryd.prog 58 sf58 = true := by kernel_rfl
/-- custody/wire.GetInt -/
def sf59 : SF := ⟨71, [.t 2, .t 3, .t 4],
 .seq (.reg [⟨(some 2), .mv (.c (.int .i64 0)), none, [2], [], []⟩,
   ⟨(some 3), .mv (.c (.int .i64 0)), none, [3], [], []⟩,
   ⟨(some 4), .mv (.c (.int .i64 0)), none, [4], [], []⟩])
  (.seq (.seq (.reg [⟨(some 10), .mv (.t 0), none, [], [], []⟩,
     ⟨(some 11), .len false (.t 10), none, [10], [], []⟩,
     ⟨(some 12), .bin .eql (.t 11) (.c (.int .i64 0)), none, [11], [], []⟩])
    (.cond (.t 12) (.seq (.reg [⟨(some 2), .mv (.c (.int .i64 0)), none, [], [], []⟩,
       ⟨(some 3), .mv (.c (.int .i64 0)), none, [], [], []⟩,
       ⟨(some 4), .mv (.c (.int .i64 5)), none, [], [], []⟩])
      (.ret))
     (.skip)))
   (.seq (.reg [⟨(some 5), .mv (.c (.int .u8 0)), none, [], [], []⟩])
    (.seq (.seq (.reg [⟨(some 13), .mv (.t 0), none, [], [], []⟩,
       ⟨(some 14), .idxS (.t 13) (.c (.int .i64 0)) 1, none, [13], [], []⟩,
       ⟨(some 15), .load none (.t 14), none, [14], [], []⟩,
       ⟨(some 16), .bin .lss (.t 15) (.c (.int .u8 128)), none, [15], [], []⟩])
      (.cond (.t 16) (.reg [⟨(some 5), .mv (.c (.int .u8 255)), none, [], [], []⟩])
       (.skip)))
     (.seq (.reg [⟨(some 17), .mv (.t 0), none, [], [], []⟩,
       ⟨(some 18), .idxS (.t 17) (.c (.int .i64 0)) 1, none, [17], [], []⟩,
       ⟨(some 19), .load none (.t 18), none, [18], [], []⟩,
       ⟨(some 20), .mv (.t 5), none, [], [], []⟩,
       ⟨(some 21), .bin .xor (.t 19) (.t 20), none, [19, 20], [], []⟩,
       ⟨(some 22), .conv .i64 (.t 21), none, [21], [], []⟩,
       ⟨(some 23), .bin .sub (.t 22) (.c (.int .i64 128)), none, [22], [], []⟩,
       ⟨(some 6), .mv (.t 23), none, [23], [], []⟩])
      (.seq (.block 0 (.seq (.reg [⟨(some 25), .mv (.t 6), none, [], [], []⟩,
          ⟨(some 26), .bin .gtr (.t 25) (.c (.int .i64 8)), none, [25], [], []⟩,
          ⟨(some 24), .mv (.t 26), none, [26], [], []⟩])
         (.cond (.t 24) (.seq (.reg [⟨(some 2), .mv (.c (.int .i64 0)), none, [], [], []⟩,
            ⟨(some 3), .mv (.c (.int .i64 0)), none, [], [], []⟩,
            ⟨(some 4), .mv (.c (.int .i64 6)), none, [], [], []⟩])
           (.ret))
          (.seq (.reg [⟨(some 28), .mv (.t 0), none, [], [], []⟩,
            ⟨(some 29), .len false (.t 28), none, [28], [], []⟩,
            ⟨(some 30), .mv (.t 6), none, [], [], []⟩,
            ⟨(some 31), .bin .leq (.t 29) (.t 30), none, [29, 30], [], []⟩,
            ⟨(some 27), .mv (.t 31), none, [31], [], []⟩])
           (.cond (.t 27) (.seq (.reg [⟨(some 2), .mv (.c (.int .i64 0)), none, [], [], []⟩,
              ⟨(some 3), .mv (.c (.int .i64 0)), none, [], [], []⟩,
              ⟨(some 4), .mv (.c (.int .i64 5)), none, [], [], []⟩])
             (.ret))
            (.seq (.reg [⟨(some 33), .mv (.t 6), none, [], [], []⟩,
              ⟨(some 34), .bin .gtr (.t 33) (.c (.int .i64 0)), none, [33], [], []⟩,
              ⟨(some 35), .mv (.t 34), none, [34], [], []⟩,
              ⟨(some 36), .mv (.t 0), (some (35, true)), [], [], []⟩,
              ⟨(some 37), .idxS (.t 36) (.c (.int .i64 1)) 1, (some (35, true)), [36], [], []⟩,
              ⟨(some 38), .load none (.t 37), (some (35, true)), [37], [], []⟩,
              ⟨(some 39), .mv (.t 5), (some (35, true)), [], [], []⟩,
              ⟨(some 40), .bin .xor (.t 38) (.t 39), (some (35, true)), [38, 39], [], []⟩,
              ⟨(some 41), .bin .eql (.t 40) (.c (.int .u8 0)), (some (35, true)), [40], [], []⟩,
              ⟨(some 42), .pick (.t 35) (.t 41) (.c (.bool false)), none, [35, 41], [], []⟩,
              ⟨(some 32), .mv (.t 42), none, [42], [], []⟩])
             (.cond (.t 32) (.seq (.reg [⟨(some 2), .mv (.c (.int .i64 0)), none, [], [], []⟩,
                ⟨(some 3), .mv (.c (.int .i64 0)), none, [], [], []⟩,
                ⟨(some 4), .mv (.c (.int .i64 6)), none, [], [], []⟩])
               (.ret))
              (.skip))))))))
       (.seq (.reg [⟨(some 7), .mv (.c (.int .u64 0)), none, [], [], []⟩])
        (.seq (.seq (.reg [⟨(some 43), .mv (.t 0), none, [0], [], []⟩,
           ⟨(some 44), .mv (.t 6), none, [], [], []⟩,
           ⟨(some 45), .bin .add (.t 44) (.c (.int .i64 1)), none, [44], [], []⟩,
           ⟨(some 46), .slcS 1 (.t 43) (some (.c (.int .i64 1))) (some (.t 45)), none, [43, 45], [], []⟩,
           ⟨(some 47), .len false (.t 46), none, [], [], []⟩,
           ⟨(some 48), .mv (.c (.int .i64 0)), none, [], [], []⟩])
          (.block 1 (.loop (.seq (.reg [⟨(some 49), .bin .lss (.t 48) (.t 47), none, [], [], []⟩])
             (.seq (.cond (.t 49) (.skip)
               (.exit 1))
              (.seq (.block 2 (.seq (.reg [⟨(some 50), .idxS (.t 46) (.t 48) 1, none, [], [], []⟩,
                  ⟨(some 51), .load none (.t 50), none, [50], [], []⟩,
                  ⟨(some 9), .mv (.t 51), none, [51], [], []⟩])
                 (.reg [⟨(some 52), .mv (.t 7), none, [7], [], []⟩,
                  ⟨(some 53), .bin .shl (.t 52) (.c (.int .u64 8)), none, [52], [], []⟩,
                  ⟨(some 54), .mv (.t 9), none, [9], [], []⟩,
                  ⟨(some 55), .mv (.t 5), none, [], [], []⟩,
                  ⟨(some 56), .bin .xor (.t 54) (.t 55), none, [54, 55], [], []⟩,
                  ⟨(some 57), .conv .u64 (.t 56), none, [56], [], []⟩,
                  ⟨(some 58), .bin .or (.t 53) (.t 57), none, [53, 57], [], []⟩,
                  ⟨(some 7), .mv (.t 58), none, [58], [], []⟩])))
               (.reg [⟨(some 59), .bin .add (.t 48) (.c (.int .i64 1)), none, [48], [], []⟩,
                ⟨(some 48), .mv (.t 59), none, [59], [], []⟩])))))))
         (.seq (.seq (.reg [⟨(some 60), .mv (.t 7), none, [], [], []⟩,
            ⟨(some 61), .bin .shr (.t 60) (.c (.int .u64 63)), none, [60], [], []⟩,
            ⟨(some 62), .bin .gtr (.t 61) (.c (.int .u64 0)), none, [61], [], []⟩])
           (.cond (.t 62) (.seq (.reg [⟨(some 2), .mv (.c (.int .i64 0)), none, [], [], []⟩,
              ⟨(some 3), .mv (.c (.int .i64 0)), none, [], [], []⟩,
              ⟨(some 4), .mv (.c (.int .i64 6)), none, [], [], []⟩])
             (.ret))
            (.skip)))
          (.seq (.seq (.reg [⟨(some 63), .mv (.t 5), none, [5], [], []⟩,
             ⟨(some 64), .bin .gtr (.t 63) (.c (.int .u8 0)), none, [63], [], []⟩])
            (.cond (.t 64) (.reg [⟨(some 65), .mv (.t 7), none, [7], [], []⟩,
              ⟨(some 66), .un .xor (.t 65), none, [65], [], []⟩,
              ⟨(some 7), .mv (.t 66), none, [66], [], []⟩])
             (.skip)))
           (.seq (.reg [⟨(some 67), .mv (.t 7), none, [7], [], []⟩,
             ⟨(some 68), .conv .i64 (.t 67), none, [67], [], []⟩,
             ⟨(some 69), .mv (.t 6), none, [6], [], []⟩,
             ⟨(some 70), .bin .add (.t 69) (.c (.int .i64 1)), none, [69], [], []⟩,
             ⟨(some 2), .mv (.t 68), none, [68], [], []⟩,
             ⟨(some 3), .mv (.t 70), none, [70], [], []⟩,
             ⟨(some 4), .mv (.c (.int .i64 0)), none, [], [], []⟩])
            (.ret)))))))))))⟩
theorem chk59 : chkF Tryd.prog 59 sf59 = true := by kernel_rfl
/-- custody/wire.GetBytes -/
def sf60 : SF := ⟨27, [.t 2, .t 3, .t 4],
 .seq (.reg [⟨(some 2), .mv (.c (.str [])), none, [2], [], []⟩,
   ⟨(some 3), .mv (.c (.int .i64 0)), none, [3], [], []⟩,
   ⟨(some 4), .mv (.c (.int .i64 0)), none, [4], [], []⟩])
  (.seq (.reg [⟨(some 9), .mv (.t 0), none, [], [], []⟩,
    ⟨(some 10), .call 69 [.t 9, .c (.int .i64 1)], none, [9], [], []⟩,
    ⟨(some 8), .mv (.t 10), none, [10], [], []⟩,
    ⟨(some 11), .ext (.t 8) 0, none, [], [], []⟩,
    ⟨(some 12), .ext (.t 8) 1, none, [], [], []⟩,
    ⟨(some 13), .ext (.t 8) 2, none, [8], [], []⟩,
    ⟨(some 5), .mv (.t 11), none, [11], [], []⟩,
    ⟨(some 6), .mv (.t 12), none, [12], [], []⟩,
    ⟨(some 7), .mv (.t 13), none, [13], [], []⟩])
   (.seq (.seq (.reg [⟨(some 14), .mv (.t 7), none, [], [], []⟩,
      ⟨(some 15), .bin .neq (.t 14) (.c (.int .i64 0)), none, [14], [], []⟩])
     (.cond (.t 15) (.seq (.reg [⟨(some 16), .mv (.t 7), none, [7], [], []⟩,
        ⟨(some 2), .mv (.c (.str [])), none, [], [], []⟩,
        ⟨(some 3), .mv (.c (.int .i64 0)), none, [], [], []⟩,
        ⟨(some 4), .mv (.t 16), none, [16], [], []⟩])
       (.ret))
      (.skip)))
    (.seq (.reg [⟨(some 17), .mv (.t 0), none, [0], [], []⟩,
      ⟨(some 18), .mv (.t 6), none, [], [], []⟩,
      ⟨(some 19), .mv (.t 6), none, [], [], []⟩,
      ⟨(some 20), .mv (.t 5), none, [], [], []⟩,
      ⟨(some 21), .bin .add (.t 19) (.t 20), none, [19, 20], [], []⟩,
      ⟨(some 22), .slcS 1 (.t 17) (some (.t 18)) (some (.t 21)), none, [17, 18, 21], [], []⟩,
      ⟨(some 23), .b2s (.t 22), none, [22], [], []⟩,
      ⟨(some 24), .mv (.t 6), none, [6], [], []⟩,
      ⟨(some 25), .mv (.t 5), none, [5], [], []⟩,
      ⟨(some 26), .bin .add (.t 24) (.t 25), none, [24, 25], [], []⟩,
      ⟨(some 2), .mv (.t 23), none, [23], [], []⟩,
      ⟨(some 3), .mv (.t 26), none, [26], [], []⟩,
      ⟨(some 4), .mv (.c (.int .i64 0)), none, [], [], []⟩])
     (.ret))))⟩
theorem chk60 : chkF Tryd.prog 60 sf60 = true := by kernel_rfl
/-- custody/wire.GetDigests -/
def sf61 : SF := ⟨36, [.t 2, .t 3, .t 4],
 .seq (.reg [⟨(some 2), .mv (.c (.val (.slice none 0 0))), none, [2], [], []⟩,
   ⟨(some 3), .mv (.c (.int .i64 0)), none, [3], [], []⟩,
   ⟨(some 4), .mv (.c (.int .i64 0)), none, [4], [], []⟩])
  (.seq (.reg [⟨(some 10), .mv (.t 0), none, [], [], []⟩,
    ⟨(some 11), .call 69 [.t 10, .c (.int .i64 16)], none, [10], [], []⟩,
    ⟨(some 9), .mv (.t 11), none, [11], [], []⟩,
    ⟨(some 12), .ext (.t 9) 0, none, [], [], []⟩,
    ⟨(some 13), .ext (.t 9) 1, none, [], [], []⟩,
    ⟨(some 14), .ext (.t 9) 2, none, [9], [], []⟩,
    ⟨(some 5), .mv (.t 12), none, [12], [], []⟩,
    ⟨(some 6), .mv (.t 13), none, [13], [], []⟩,
    ⟨(some 7), .mv (.t 14), none, [14], [], []⟩])
   (.seq (.seq (.reg [⟨(some 15), .mv (.t 7), none, [], [], []⟩,
      ⟨(some 16), .bin .neq (.t 15) (.c (.int .i64 0)), none, [15], [], []⟩])
     (.cond (.t 16) (.seq (.reg [⟨(some 17), .mv (.t 7), none, [7], [], []⟩,
        ⟨(some 2), .mv (.c (.val (.slice none 0 0))), none, [], [], []⟩,
        ⟨(some 3), .mv (.c (.int .i64 0)), none, [], [], []⟩,
        ⟨(some 4), .mv (.t 17), none, [17], [], []⟩])
       (.ret))
      (.skip)))
    (.seq (.reg [⟨(some 8), .mv (.c (.val (.slice none 0 0))), none, [], [], []⟩])
     (.seq (.seq (.reg [⟨(some 18), .mv (.t 5), none, [5], [], []⟩,
        ⟨(some 19), .mv (.c (.int .i64 0)), none, [], [], []⟩])
       (.block 0 (.loop (.seq (.reg [⟨(some 20), .bin .lss (.t 19) (.t 18), none, [], [], []⟩])
          (.seq (.cond (.t 20) (.skip)
            (.exit 0))
           (.seq (.block 1 (.seq (.reg [⟨(some 21), .mv (.t 8), none, [8], [], []⟩,
               ⟨(some 22), .mv (.t 0), none, [], [], []⟩,
               ⟨(some 23), .mv (.t 6), none, [], [], []⟩,
               ⟨(some 24), .mv (.t 6), none, [], [], []⟩,
               ⟨(some 25), .bin .add (.t 24) (.c (.int .i64 16)), none, [24], [], []⟩,
               ⟨(some 26), .slcS 1 (.t 22) (some (.t 23)) (some (.t 25)), none, [22, 23, 25], [], []⟩,
               ⟨(some 27), .arrAt 16 (.t 26), none, [26], [], []⟩,
               ⟨(some 28), .load (some 16) (.t 27), none, [27], [], []⟩,
               ⟨(some 29), .bslice 36 16 1 [.int .u8 0, .int .u8 0, .int .u8 0, .int .u8 0, .int .u8 0, .int .u8 0, .int .u8 0, .int .u8 0, .int .u8 0, .int .u8 0, .int .u8 0, .int .u8 0, .int .u8 0, .int .u8 0, .int .u8 0, .int .u8 0] [(0, 16, .t 28)], none, [28], [], []⟩,
               ⟨(some 30), .app 36 16 16 (.t 21) (.t 29), none, [21, 29], [], []⟩,
               ⟨(some 8), .mv (.t 30), none, [30], [], []⟩])
              (.reg [⟨(some 31), .mv (.t 6), none, [6], [], []⟩,
               ⟨(some 32), .bin .add (.t 31) (.c (.int .i64 16)), none, [31], [], []⟩,
               ⟨(some 6), .mv (.t 32), none, [32], [], []⟩])))
            (.reg [⟨(some 33), .bin .add (.t 19) (.c (.int .i64 1)), none, [19], [], []⟩,
             ⟨(some 19), .mv (.t 33), none, [33], [], []⟩])))))))
      (.seq (.reg [⟨(some 34), .mv (.t 8), none, [8], [], []⟩,
        ⟨(some 35), .mv (.t 6), none, [6], [], []⟩,
        ⟨(some 2), .mv (.t 34), none, [34], [], []⟩,
        ⟨(some 3), .mv (.t 35), none, [35], [], []⟩,
        ⟨(some 4), .mv (.c (.int .i64 0)), none, [], [], []⟩])
       (.ret))))))⟩
theorem chk61 : chkF Tryd.prog 61 sf61 = true := by kernel_rfl
end Go.Proofs.YtkfbkooobfepeaaDoor.Sf

/- The functions of the program that are walked through, written out for the engine (printed by wip/tools/Print.lean from the dump), and the kernel's check of each against the program. -/
namespace Go.Proofs.YtkfbkooobfepeaaDoor.Sf
open Go Go.Sx
set_option maxRecDepth 100000
set_option linter.unusedSimpArgs false
set_option linter.unusedVariables false

/-- custody/wire.count -/
def sf69 : SF := ⟨31, [.t 4, .t 5, .t 6],
 .seq (.reg [⟨(some 4), .mv (.c (.int .i64 0)), none, [4], [], []⟩,
   ⟨(some 5), .mv (.c (.int .i64 0)), none, [5], [], []⟩,
   ⟨(some 6), .mv (.c (.int .i64 0)), none, [6], [], []⟩])
  (.seq (.reg [⟨(some 8), .mv (.t 0), none, [], [], []⟩,
    ⟨(some 9), .call 59 [.t 8], none, [8], [], []⟩,
    ⟨(some 7), .mv (.t 9), none, [9], [], []⟩,
    ⟨(some 10), .ext (.t 7) 0, none, [], [], []⟩,
    ⟨(some 11), .ext (.t 7) 1, none, [], [], []⟩,
    ⟨(some 12), .ext (.t 7) 2, none, [7], [], []⟩,
    ⟨(some 4), .mv (.t 10), none, [10], [], []⟩,
    ⟨(some 5), .mv (.t 11), none, [11], [], []⟩,
    ⟨(some 6), .mv (.t 12), none, [12], [], []⟩])
   (.seq (.block 0 (.seq (.reg [⟨(some 14), .mv (.t 6), none, [], [], []⟩,
       ⟨(some 15), .bin .neq (.t 14) (.c (.int .i64 0)), none, [14], [], []⟩,
       ⟨(some 13), .mv (.t 15), none, [15], [], []⟩])
      (.cond (.t 13) (.skip)
       (.seq (.reg [⟨(some 17), .mv (.t 4), none, [], [], []⟩,
         ⟨(some 18), .bin .lss (.t 17) (.c (.int .i64 0)), none, [17], [], []⟩,
         ⟨(some 16), .mv (.t 18), none, [18], [], []⟩])
        (.cond (.t 16) (.reg [⟨(some 6), .mv (.c (.int .i64 6)), none, [], [], []⟩])
         (.seq (.reg [⟨(some 20), .mv (.t 4), none, [], [], []⟩,
           ⟨(some 21), .mv (.t 0), none, [0], [], []⟩,
           ⟨(some 22), .len false (.t 21), none, [21], [], []⟩,
           ⟨(some 23), .mv (.t 5), none, [], [], []⟩,
           ⟨(some 24), .bin .sub (.t 22) (.t 23), none, [22, 23], [], []⟩,
           ⟨(some 25), .mv (.t 1), none, [1], [], []⟩,
           ⟨(some 26), .bin .quo (.t 24) (.t 25), none, [24, 25], [], []⟩,
           ⟨(some 27), .bin .gtr (.t 20) (.t 26), none, [20, 26], [], []⟩,
           ⟨(some 19), .mv (.t 27), none, [27], [], []⟩])
          (.cond (.t 19) (.reg [⟨(some 6), .mv (.c (.int .i64 5)), none, [], [], []⟩])
           (.skip))))))))
    (.seq (.reg [⟨(some 28), .mv (.t 4), none, [4], [], []⟩,
      ⟨(some 29), .mv (.t 5), none, [5], [], []⟩,
      ⟨(some 30), .mv (.t 6), none, [6], [], []⟩,
      ⟨(some 4), .mv (.t 28), none, [28], [], []⟩,
      ⟨(some 5), .mv (.t 29), none, [29], [], []⟩,
      ⟨(some 6), .mv (.t 30), none, [30], [], []⟩])
     (.ret))))⟩
theorem chk69 : chkF Tryd.prog 69 sf69 = true := by kernel_rfl
/-- custody/wire.reader -/
def sf70 : SF := ⟨6, [.t 4],
 .seq (.reg [⟨(some 2), .box 56 (.t 0), none, [0], [], []⟩,
   ⟨(some 3), .box 3 (.t 1), none, [1], [], []⟩,
   ⟨(some 4), .mv (.c (.val .nilFunc)), none, [4], [], []⟩])
  (.seq (.reg [⟨(some 5), .mkfn 85 [] [.t 2, .t 3], none, [2, 3], [], []⟩,
    ⟨(some 4), .mv (.t 5), none, [5], [], []⟩])
   (.ret))⟩
theorem chk70 : chkF Tryd.prog 70 sf70 = true := by kernel_rfl
/-- custody/hash.compress -/
def sf73 : SF := ⟨116, [.c 4 (some 8)],
 .seq (.reg [⟨(some 2), .box 83 (.t 0), none, [0], [], []⟩,
   ⟨(some 4), .new 83 [.int .u32 0, .int .u32 0, .int .u32 0, .int .u32 0, .int .u32 0, .int .u32 0, .int .u32 0, .int .u32 0], none, [], [], []⟩])
  (.seq (.reg [⟨(some 13), .mv (.t 1), none, [1], [], []⟩,
    ⟨(some 14), .call 86 [.t 13], none, [13], [], []⟩,
    ⟨(some 5), .new 121 [.int .u32 0, .int .u32 0, .int .u32 0, .int .u32 0, .int .u32 0, .int .u32 0, .int .u32 0, .int .u32 0, .int .u32 0, .int .u32 0, .int .u32 0, .int .u32 0, .int .u32 0, .int .u32 0, .int .u32 0, .int .u32 0, .int .u32 0, .int .u32 0, .int .u32 0, .int .u32 0, .int .u32 0, .int .u32 0, .int .u32 0, .int .u32 0, .int .u32 0, .int .u32 0, .int .u32 0, .int .u32 0, .int .u32 0, .int .u32 0, .int .u32 0, .int .u32 0, .int .u32 0, .int .u32 0, .int .u32 0, .int .u32 0, .int .u32 0, .int .u32 0, .int .u32 0, .int .u32 0, .int .u32 0, .int .u32 0, .int .u32 0, .int .u32 0, .int .u32 0, .int .u32 0, .int .u32 0, .int .u32 0, .int .u32 0, .int .u32 0, .int .u32 0, .int .u32 0, .int .u32 0, .int .u32 0, .int .u32 0, .int .u32 0, .int .u32 0, .int .u32 0, .int .u32 0, .int .u32 0, .int .u32 0, .int .u32 0, .int .u32 0, .int .u32 0], none, [], [], []⟩,
    ⟨none, .store 64 (.t 5) (.t 14), none, [14], [], []⟩])
   (.seq (.regW 9 [⟨(some 15), .slcA 8 1 (.t 2) none (some (.c (.int .i64 4))), none, [], [], [6, 7, 18, 19, 20]⟩,
     ⟨(some 16), .arrAt 4 (.t 15), none, [], [0], [6, 7, 18, 19, 20]⟩,
     ⟨(some 17), .load (some 4) (.t 16), none, [], [0, 1], [6, 7, 18, 19, 20]⟩,
     ⟨(some 18), .slcA 8 1 (.t 2) (some (.c (.int .i64 4))) none, none, [], [], [6, 7, 15, 16, 17]⟩,
     ⟨(some 19), .arrAt 4 (.t 18), none, [], [3], [6, 7, 15, 16, 17]⟩,
     ⟨(some 20), .load (some 4) (.t 19), none, [], [3, 4], [6, 7, 15, 16, 17]⟩,
     ⟨(some 6), .new 123 [.int .u32 0, .int .u32 0, .int .u32 0, .int .u32 0], none, [], [], [7, 15, 16, 17, 18, 19, 20]⟩,
     ⟨(some 7), .new 123 [.int .u32 0, .int .u32 0, .int .u32 0, .int .u32 0], none, [], [], [6, 15, 16, 17, 18, 19, 20]⟩,
     ⟨none, .store 4 (.t 6) (.t 17), none, [15, 16, 17, 18, 19], [0, 1, 2, 6, 7], [18, 19, 20]⟩,
     ⟨none, .store 4 (.t 7) (.t 20), none, [20], [0, 1, 2, 3, 4, 5, 6, 7, 8], []⟩])
    (.seq (.seq (.reg [⟨(some 21), .load (some 64) (.g 0), none, [], [], []⟩,
       ⟨(some 22), .mv (.c (.int .i64 0)), none, [], [], []⟩])
      (.block 0 (.loop (.seq (.reg [⟨(some 23), .bin .lss (.t 22) (.c (.int .i64 64)), none, [], [], []⟩])
         (.seq (.cond (.t 23) (.skip)
           (.exit 0))
          (.seq (.block 1 (.seq (.reg [⟨(some 24), .mv (.t 22), none, [], [], []⟩,
              ⟨(some 25), .idxV (.t 21) (.t 22) 64 1 false, none, [], [], []⟩,
              ⟨(some 8), .mv (.t 24), none, [24], [], []⟩,
              ⟨(some 9), .mv (.t 25), none, [25], [], []⟩])
             (.seq (.regP 24 [⟨(some 26), .idxA (.t 7) (.c (.int .i64 3)) 4 1, none, [], [], [28, 29, 30, 32, 33, 34, 35, 36, 37, 38, 39, 40, 41, 42, 43, 45, 47, 48, 49]⟩,
               ⟨(some 27), .load none (.t 26), none, [], [0], [28, 29, 30, 32, 33, 34, 35, 36, 37, 38, 39, 40, 41, 42, 43, 45, 47, 48, 49]⟩,
               ⟨(some 28), .idxA (.t 7) (.c (.int .i64 0)) 4 1, none, [], [], [26, 27, 32, 33, 34, 35, 36, 37, 38, 39, 40, 41, 42, 43, 45, 47, 48, 49]⟩,
               ⟨(some 29), .load none (.t 28), none, [], [2], [26, 27, 32, 33, 34, 35, 36, 37, 38, 39, 40, 41, 42, 43, 45, 47, 48, 49]⟩,
               ⟨(some 30), .callp 87 [.t 29, .c (.int .i64 6), .c (.int .i64 11), .c (.int .i64 25)], none, [], [2, 3], [26, 27, 32, 33, 34, 35, 36, 37, 38, 39, 40, 41, 42, 43, 45, 47, 48, 49]⟩,
               ⟨(some 31), .bin .add (.t 27) (.t 30), none, [], [0, 1, 2, 3, 4], [32, 33, 34, 35, 36, 37, 38, 39, 40, 41, 42, 43, 45, 47, 48, 49]⟩,
               ⟨(some 32), .idxA (.t 7) (.c (.int .i64 0)) 4 1, none, [], [], [26, 27, 28, 29, 30, 31, 34, 35, 37, 38, 39, 40, 41, 42, 45, 47, 48, 49]⟩,
               ⟨(some 33), .load none (.t 32), none, [], [6], [26, 27, 28, 29, 30, 31, 34, 35, 37, 38, 39, 40, 41, 42, 45, 47, 48, 49]⟩,
               ⟨(some 34), .idxA (.t 7) (.c (.int .i64 1)) 4 1, none, [], [], [26, 27, 28, 29, 30, 31, 32, 33, 37, 38, 39, 40, 41, 42, 45, 47, 48, 49]⟩,
               ⟨(some 35), .load none (.t 34), none, [], [8], [26, 27, 28, 29, 30, 31, 32, 33, 37, 38, 39, 40, 41, 42, 45, 47, 48, 49]⟩,
               ⟨(some 36), .bin .and (.t 33) (.t 35), none, [], [6, 7, 8, 9], [26, 27, 28, 29, 30, 31, 37, 38, 39, 40, 41, 42, 45, 47, 48, 49]⟩,
               ⟨(some 37), .idxA (.t 7) (.c (.int .i64 0)) 4 1, none, [], [], [26, 27, 28, 29, 30, 31, 32, 33, 34, 35, 36, 40, 41, 45, 47, 48, 49]⟩,
               ⟨(some 38), .load none (.t 37), none, [], [11], [26, 27, 28, 29, 30, 31, 32, 33, 34, 35, 36, 40, 41, 45, 47, 48, 49]⟩,
               ⟨(some 39), .un .xor (.t 38), none, [], [11, 12], [26, 27, 28, 29, 30, 31, 32, 33, 34, 35, 36, 40, 41, 45, 47, 48, 49]⟩,
               ⟨(some 40), .idxA (.t 7) (.c (.int .i64 2)) 4 1, none, [], [], [26, 27, 28, 29, 30, 31, 32, 33, 34, 35, 36, 37, 38, 39, 45, 47, 48, 49]⟩,
               ⟨(some 41), .load none (.t 40), none, [], [14], [26, 27, 28, 29, 30, 31, 32, 33, 34, 35, 36, 37, 38, 39, 45, 47, 48, 49]⟩,
               ⟨(some 42), .bin .and (.t 39) (.t 41), none, [], [11, 12, 13, 14, 15], [26, 27, 28, 29, 30, 31, 32, 33, 34, 35, 36, 45, 47, 48, 49]⟩,
               ⟨(some 43), .bin .xor (.t 36) (.t 42), none, [], [6, 7, 8, 9, 10, 11, 12, 13, 14, 15, 16], [26, 27, 28, 29, 30, 31, 45, 47, 48, 49]⟩,
               ⟨(some 44), .bin .add (.t 31) (.t 43), none, [], [0, 1, 2, 3, 4, 5, 6, 7, 8, 9, 10, 11, 12, 13, 14, 15, 16, 17], [45, 47, 48, 49]⟩,
               ⟨(some 45), .mv (.t 9), none, [], [], [26, 27, 28, 29, 30, 31, 32, 33, 34, 35, 36, 37, 38, 39, 40, 41, 42, 43, 44, 47, 48, 49]⟩,
               ⟨(some 46), .bin .add (.t 44) (.t 45), none, [], [0, 1, 2, 3, 4, 5, 6, 7, 8, 9, 10, 11, 12, 13, 14, 15, 16, 17, 18, 19], [47, 48, 49]⟩,
               ⟨(some 47), .mv (.t 8), none, [], [], [26, 27, 28, 29, 30, 31, 32, 33, 34, 35, 36, 37, 38, 39, 40, 41, 42, 43, 44, 45, 46]⟩,
               ⟨(some 48), .idxA (.t 5) (.t 47) 64 1, none, [], [21], [26, 27, 28, 29, 30, 31, 32, 33, 34, 35, 36, 37, 38, 39, 40, 41, 42, 43, 44, 45, 46]⟩,
               ⟨(some 49), .load none (.t 48), none, [8, 9, 26, 27, 28, 29, 30, 31, 32, 33, 34, 35, 36, 37, 38, 39, 40, 41, 42, 43, 44, 45, 47, 48], [21, 22], [26, 27, 28, 29, 30, 31, 32, 33, 34, 35, 36, 37, 38, 39, 40, 41, 42, 43, 44, 45, 46]⟩,
               ⟨(some 50), .bin .add (.t 46) (.t 49), none, [46, 49], [0, 1, 2, 3, 4, 5, 6, 7, 8, 9, 10, 11, 12, 13, 14, 15, 16, 17, 18, 19, 20, 21, 22, 23], []⟩,
               ⟨(some 10), .mv (.t 50), none, [50], [0, 1, 2, 3, 4, 5, 6, 7, 8, 9, 10, 11, 12, 13, 14, 15, 16, 17, 18, 19, 20, 21, 22, 23, 24], []⟩])
              (.seq (.regP 20 [⟨(some 51), .idxA (.t 6) (.c (.int .i64 0)) 4 1, none, [], [], [54, 55, 56, 57, 58, 59, 60, 61, 62, 63, 64, 65, 66, 67, 68, 69, 70]⟩,
                ⟨(some 52), .load none (.t 51), none, [], [0], [54, 55, 56, 57, 58, 59, 60, 61, 62, 63, 64, 65, 66, 67, 68, 69, 70]⟩,
                ⟨(some 53), .callp 87 [.t 52, .c (.int .i64 2), .c (.int .i64 13), .c (.int .i64 22)], none, [], [0, 1], [54, 55, 56, 57, 58, 59, 60, 61, 62, 63, 64, 65, 66, 67, 68, 69, 70]⟩,
                ⟨(some 54), .idxA (.t 6) (.c (.int .i64 0)) 4 1, none, [], [], [51, 52, 53, 56, 57, 59, 60, 61, 62, 63, 65, 66, 67, 68, 69]⟩,
                ⟨(some 55), .load none (.t 54), none, [], [3], [51, 52, 53, 56, 57, 59, 60, 61, 62, 63, 65, 66, 67, 68, 69]⟩,
                ⟨(some 56), .idxA (.t 6) (.c (.int .i64 1)) 4 1, none, [], [], [51, 52, 53, 54, 55, 59, 60, 61, 62, 63, 65, 66, 67, 68, 69]⟩,
                ⟨(some 57), .load none (.t 56), none, [], [5], [51, 52, 53, 54, 55, 59, 60, 61, 62, 63, 65, 66, 67, 68, 69]⟩,
                ⟨(some 58), .bin .and (.t 55) (.t 57), none, [], [3, 4, 5, 6], [51, 52, 53, 59, 60, 61, 62, 63, 65, 66, 67, 68, 69]⟩,
                ⟨(some 59), .idxA (.t 6) (.c (.int .i64 0)) 4 1, none, [], [], [51, 52, 53, 54, 55, 56, 57, 58, 61, 62, 65, 66, 67, 68, 69]⟩,
                ⟨(some 60), .load none (.t 59), none, [], [8], [51, 52, 53, 54, 55, 56, 57, 58, 61, 62, 65, 66, 67, 68, 69]⟩,
                ⟨(some 61), .idxA (.t 6) (.c (.int .i64 2)) 4 1, none, [], [], [51, 52, 53, 54, 55, 56, 57, 58, 59, 60, 65, 66, 67, 68, 69]⟩,
                ⟨(some 62), .load none (.t 61), none, [], [10], [51, 52, 53, 54, 55, 56, 57, 58, 59, 60, 65, 66, 67, 68, 69]⟩,
                ⟨(some 63), .bin .and (.t 60) (.t 62), none, [], [8, 9, 10, 11], [51, 52, 53, 54, 55, 56, 57, 58, 65, 66, 67, 68, 69]⟩,
                ⟨(some 64), .bin .xor (.t 58) (.t 63), none, [], [3, 4, 5, 6, 7, 8, 9, 10, 11, 12], [51, 52, 53, 65, 66, 67, 68, 69]⟩,
                ⟨(some 65), .idxA (.t 6) (.c (.int .i64 1)) 4 1, none, [], [], [51, 52, 53, 54, 55, 56, 57, 58, 59, 60, 61, 62, 63, 64, 67, 68]⟩,
                ⟨(some 66), .load none (.t 65), none, [], [14], [51, 52, 53, 54, 55, 56, 57, 58, 59, 60, 61, 62, 63, 64, 67, 68]⟩,
                ⟨(some 67), .idxA (.t 6) (.c (.int .i64 2)) 4 1, none, [], [], [51, 52, 53, 54, 55, 56, 57, 58, 59, 60, 61, 62, 63, 64, 65, 66]⟩,
                ⟨(some 68), .load none (.t 67), none, [], [16], [51, 52, 53, 54, 55, 56, 57, 58, 59, 60, 61, 62, 63, 64, 65, 66]⟩,
                ⟨(some 69), .bin .and (.t 66) (.t 68), none, [], [14, 15, 16, 17], [51, 52, 53, 54, 55, 56, 57, 58, 59, 60, 61, 62, 63, 64]⟩,
                ⟨(some 70), .bin .xor (.t 64) (.t 69), none, [51, 52, 54, 55, 56, 57, 58, 59, 60, 61, 62, 63, 64, 65, 66, 67, 68, 69], [3, 4, 5, 6, 7, 8, 9, 10, 11, 12, 13, 14, 15, 16, 17, 18], [51, 52, 53]⟩,
                ⟨(some 71), .bin .add (.t 53) (.t 70), none, [53, 70], [0, 1, 2, 3, 4, 5, 6, 7, 8, 9, 10, 11, 12, 13, 14, 15, 16, 17, 18, 19], []⟩,
                ⟨(some 11), .mv (.t 71), none, [71], [0, 1, 2, 3, 4, 5, 6, 7, 8, 9, 10, 11, 12, 13, 14, 15, 16, 17, 18, 19, 20], []⟩])
               (.seq (.reg [⟨(some 72), .idxA (.t 6) (.c (.int .i64 3)) 4 1, none, [], [], []⟩,
                 ⟨(some 73), .load none (.t 72), none, [72], [], []⟩,
                 ⟨(some 74), .mv (.t 10), none, [], [], []⟩,
                 ⟨(some 75), .bin .add (.t 73) (.t 74), none, [73, 74], [], []⟩,
                 ⟨(some 76), .idxA (.t 7) (.c (.int .i64 0)) 4 1, none, [], [], []⟩,
                 ⟨(some 77), .load none (.t 76), none, [76], [], []⟩,
                 ⟨(some 78), .idxA (.t 7) (.c (.int .i64 1)) 4 1, none, [], [], []⟩,
                 ⟨(some 79), .load none (.t 78), none, [78], [], []⟩,
                 ⟨(some 80), .idxA (.t 7) (.c (.int .i64 2)) 4 1, none, [], [], []⟩,
                 ⟨(some 81), .load none (.t 80), none, [80], [], []⟩,
                 ⟨(some 82), .build [.int .u32 0, .int .u32 0, .int .u32 0, .int .u32 0] [(0, 1, .t 75), (1, 1, .t 77), (2, 1, .t 79), (3, 1, .t 81)], none, [75, 77, 79, 81], [], []⟩,
                 ⟨none, .store 4 (.t 7) (.t 82), none, [82], [], []⟩])
                (.reg [⟨(some 83), .mv (.t 10), none, [10], [], []⟩,
                 ⟨(some 84), .mv (.t 11), none, [11], [], []⟩,
                 ⟨(some 85), .bin .add (.t 83) (.t 84), none, [83, 84], [], []⟩,
                 ⟨(some 86), .idxA (.t 6) (.c (.int .i64 0)) 4 1, none, [], [], []⟩,
                 ⟨(some 87), .load none (.t 86), none, [86], [], []⟩,
                 ⟨(some 88), .idxA (.t 6) (.c (.int .i64 1)) 4 1, none, [], [], []⟩,
                 ⟨(some 89), .load none (.t 88), none, [88], [], []⟩,
                 ⟨(some 90), .idxA (.t 6) (.c (.int .i64 2)) 4 1, none, [], [], []⟩,
                 ⟨(some 91), .load none (.t 90), none, [90], [], []⟩,
                 ⟨(some 92), .build [.int .u32 0, .int .u32 0, .int .u32 0, .int .u32 0] [(0, 1, .t 85), (1, 1, .t 87), (2, 1, .t 89), (3, 1, .t 91)], none, [85, 87, 89, 91], [], []⟩,
                 ⟨none, .store 4 (.t 6) (.t 92), none, [92], [], []⟩]))))))
           (.reg [⟨(some 93), .bin .add (.t 22) (.c (.int .i64 1)), none, [22], [], []⟩,
            ⟨(some 22), .mv (.t 93), none, [93], [], []⟩])))))))
     (.seq (.seq (.reg [⟨(some 94), .mv (.c (.int .i64 0)), none, [], [], []⟩])
       (.block 2 (.loop (.seq (.reg [⟨(some 95), .bin .lss (.t 94) (.c (.int .i64 4)), none, [], [], []⟩])
          (.seq (.cond (.t 95) (.skip)
            (.exit 2))
           (.seq (.block 3 (.seq (.reg [⟨(some 96), .mv (.t 94), none, [], [], []⟩,
               ⟨(some 12), .mv (.t 96), none, [96], [], []⟩])
              (.seq (.regP 6 [⟨(some 97), .mv (.t 12), none, [], [], [100, 101, 102]⟩,
                ⟨(some 98), .idxA (.t 2) (.t 97) 8 1, none, [], [0], [100, 101, 102]⟩,
                ⟨(some 99), .load none (.t 98), none, [], [0, 1], [100, 101, 102]⟩,
                ⟨(some 100), .mv (.t 12), none, [], [], [97, 98, 99]⟩,
                ⟨(some 101), .idxA (.t 6) (.t 100) 4 1, none, [], [3], [97, 98, 99]⟩,
                ⟨(some 102), .load none (.t 101), none, [98, 100, 101], [3, 4], [97, 98, 99]⟩,
                ⟨(some 103), .bin .add (.t 99) (.t 102), none, [99, 102], [0, 1, 2, 3, 4, 5], []⟩,
                ⟨(some 104), .idxA (.t 2) (.t 97) 8 1, none, [97], [0, 1, 2, 3, 4, 5, 6], []⟩,
                ⟨none, .store 1 (.t 104) (.t 103), none, [103, 104], [0, 1, 2, 3, 4, 5, 6, 7], []⟩])
               (.regP 7 [⟨(some 105), .mv (.t 12), none, [], [], [109, 110, 111]⟩,
                ⟨(some 106), .bin .add (.t 105) (.c (.int .i64 4)), none, [], [0], [109, 110, 111]⟩,
                ⟨(some 107), .idxA (.t 2) (.t 106) 8 1, none, [], [0, 1], [109, 110, 111]⟩,
                ⟨(some 108), .load none (.t 107), none, [], [0, 1, 2], [109, 110, 111]⟩,
                ⟨(some 109), .mv (.t 12), none, [], [], [105, 106, 107, 108]⟩,
                ⟨(some 110), .idxA (.t 7) (.t 109) 4 1, none, [], [4], [105, 106, 107, 108]⟩,
                ⟨(some 111), .load none (.t 110), none, [12, 105, 107, 109, 110], [4, 5], [105, 106, 107, 108]⟩,
                ⟨(some 112), .bin .add (.t 108) (.t 111), none, [108, 111], [0, 1, 2, 3, 4, 5, 6], []⟩,
                ⟨(some 113), .idxA (.t 2) (.t 106) 8 1, none, [106], [0, 1, 2, 3, 4, 5, 6, 7], []⟩,
                ⟨none, .store 1 (.t 113) (.t 112), none, [112, 113], [0, 1, 2, 3, 4, 5, 6, 7, 8], []⟩]))))
            (.reg [⟨(some 114), .bin .add (.t 94) (.c (.int .i64 1)), none, [94], [], []⟩,
             ⟨(some 94), .mv (.t 114), none, [114], [], []⟩])))))))
      (.seq (.reg [⟨(some 115), .load (some 8) (.t 2), none, [2], [], []⟩,
        ⟨none, .store 8 (.t 4) (.t 115), none, [115], [], []⟩])
       (.ret))))))⟩
theorem chk73 : chkF Tryd.prog 73 sf73 = true := by kernel_rfl
/-- custody/treesig.reader$1 -/
def sf75 : SF := ⟨14, [],
 .seq (.seq (.reg [⟨(some 6), .load none (.t 2), none, [], [], []⟩,
    ⟨(some 7), .bin .eql (.t 6) (.c (.int .i64 0)), none, [6], [], []⟩])
   (.cond (.t 7) (.reg [⟨(some 8), .mv (.t 1), none, [1], [], []⟩,
     ⟨none, .store 1 (.t 2) (.t 8), none, [8], [], []⟩])
    (.skip)))
  (.seq (.reg [⟨(some 9), .load none (.t 2), none, [2], [], []⟩,
    ⟨(some 10), .bin .eql (.t 9) (.c (.int .i64 0)), none, [9], [], []⟩])
   (.cond (.t 10) (.reg [⟨(some 11), .load none (.t 3), none, [], [], []⟩,
     ⟨(some 12), .mv (.t 0), none, [0], [], []⟩,
     ⟨(some 13), .slcS 1 (.t 11) (some (.t 12)) none, none, [11, 12], [], []⟩,
     ⟨none, .store 1 (.t 3) (.t 13), none, [3, 13], [], []⟩])
    (.skip)))⟩
theorem chk75 : chkF Tryd.prog 75 sf75 = true := by kernel_rfl
/-- custody/treesig.reader$2 -/
def sf76 : SF := ⟨6, [.t 2, .t 3],
 .seq (.reg [⟨(some 2), .mv (.c (.val (.slice none 0 0))), none, [2], [], []⟩,
   ⟨(some 3), .mv (.c (.int .i64 0)), none, [3], [], []⟩])
  (.seq (.regP 3 [⟨(some 4), .load none (.t 0), none, [], [], [5]⟩,
    ⟨(some 5), .load none (.t 1), none, [], [], [2, 4]⟩,
    ⟨(some 2), .mv (.t 4), none, [0, 1, 4], [0], [5]⟩,
    ⟨(some 3), .mv (.t 5), none, [5], [0, 1, 2], []⟩])
   (.ret))⟩
theorem chk76 : chkF Tryd.prog 76 sf76 = true := by kernel_rfl
/-- custody/wire.reader$1 -/
def sf85 : SF := ⟨22, [.t 2, .t 3, .t 4],
 .seq (.reg [⟨(some 2), .mv (.c (.int .i64 0)), none, [2], [], []⟩,
   ⟨(some 3), .mv (.c (.int .i64 0)), none, [3], [], []⟩,
   ⟨(some 4), .mv (.c (.int .i64 0)), none, [4], [], []⟩])
  (.seq (.reg [⟨(some 9), .load none (.t 0), none, [0], [], []⟩,
    ⟨(some 10), .load none (.t 1), none, [], [], []⟩,
    ⟨(some 11), .slcS 1 (.t 9) (some (.t 10)) none, none, [9, 10], [], []⟩,
    ⟨(some 12), .call 59 [.t 11], none, [11], [], []⟩,
    ⟨(some 8), .mv (.t 12), none, [12], [], []⟩,
    ⟨(some 13), .ext (.t 8) 0, none, [], [], []⟩,
    ⟨(some 14), .ext (.t 8) 1, none, [], [], []⟩,
    ⟨(some 15), .ext (.t 8) 2, none, [8], [], []⟩,
    ⟨(some 5), .mv (.t 13), none, [13], [], []⟩,
    ⟨(some 6), .mv (.t 14), none, [14], [], []⟩,
    ⟨(some 7), .mv (.t 15), none, [15], [], []⟩])
   (.seq (.reg [⟨(some 16), .load none (.t 1), none, [], [], []⟩,
     ⟨(some 17), .mv (.t 6), none, [6], [], []⟩,
     ⟨(some 18), .bin .add (.t 16) (.t 17), none, [16, 17], [], []⟩,
     ⟨none, .store 1 (.t 1) (.t 18), none, [18], [], []⟩])
    (.seq (.regP 5 [⟨(some 19), .mv (.t 5), none, [], [], [20, 21]⟩,
      ⟨(some 20), .load none (.t 1), none, [], [], [2, 19, 21]⟩,
      ⟨(some 21), .mv (.t 7), none, [], [], [2, 3, 19, 20]⟩,
      ⟨(some 2), .mv (.t 19), none, [], [0], [20, 21]⟩,
      ⟨(some 3), .mv (.t 20), none, [1, 5, 7, 19, 20], [0, 1, 3], [21]⟩,
      ⟨(some 4), .mv (.t 21), none, [21], [0, 1, 2, 3, 4], []⟩])
     (.ret))))⟩
theorem chk85 : chkF Tryd.prog 85 sf85 = true := by kernel_rfl
/-- custody/hash.schedule -/
def sf86 : SF := ⟨79, [.c 2 (some 64)],
 .seq (.reg [⟨(some 2), .new 121 [.int .u32 0, .int .u32 0, .int .u32 0, .int .u32 0, .int .u32 0, .int .u32 0, .int .u32 0, .int .u32 0, .int .u32 0, .int .u32 0, .int .u32 0, .int .u32 0, .int .u32 0, .int .u32 0, .int .u32 0, .int .u32 0, .int .u32 0, .int .u32 0, .int .u32 0, .int .u32 0, .int .u32 0, .int .u32 0, .int .u32 0, .int .u32 0, .int .u32 0, .int .u32 0, .int .u32 0, .int .u32 0, .int .u32 0, .int .u32 0, .int .u32 0, .int .u32 0, .int .u32 0, .int .u32 0, .int .u32 0, .int .u32 0, .int .u32 0, .int .u32 0, .int .u32 0, .int .u32 0, .int .u32 0, .int .u32 0, .int .u32 0, .int .u32 0, .int .u32 0, .int .u32 0, .int .u32 0, .int .u32 0, .int .u32 0, .int .u32 0, .int .u32 0, .int .u32 0, .int .u32 0, .int .u32 0, .int .u32 0, .int .u32 0, .int .u32 0, .int .u32 0, .int .u32 0, .int .u32 0, .int .u32 0, .int .u32 0, .int .u32 0, .int .u32 0], none, [], [], []⟩])
  (.seq (.reg [⟨(some 3), .new 121 [.int .u32 0, .int .u32 0, .int .u32 0, .int .u32 0, .int .u32 0, .int .u32 0, .int .u32 0, .int .u32 0, .int .u32 0, .int .u32 0, .int .u32 0, .int .u32 0, .int .u32 0, .int .u32 0, .int .u32 0, .int .u32 0, .int .u32 0, .int .u32 0, .int .u32 0, .int .u32 0, .int .u32 0, .int .u32 0, .int .u32 0, .int .u32 0, .int .u32 0, .int .u32 0, .int .u32 0, .int .u32 0, .int .u32 0, .int .u32 0, .int .u32 0, .int .u32 0, .int .u32 0, .int .u32 0, .int .u32 0, .int .u32 0, .int .u32 0, .int .u32 0, .int .u32 0, .int .u32 0, .int .u32 0, .int .u32 0, .int .u32 0, .int .u32 0, .int .u32 0, .int .u32 0, .int .u32 0, .int .u32 0, .int .u32 0, .int .u32 0, .int .u32 0, .int .u32 0, .int .u32 0, .int .u32 0, .int .u32 0, .int .u32 0, .int .u32 0, .int .u32 0, .int .u32 0, .int .u32 0, .int .u32 0, .int .u32 0, .int .u32 0, .int .u32 0], none, [], [], []⟩])
   (.seq (.seq (.reg [⟨(some 11), .mv (.c (.int .i64 0)), none, [], [], []⟩])
     (.block 0 (.loop (.seq (.reg [⟨(some 12), .bin .lss (.t 11) (.c (.int .i64 64)), none, [], [], []⟩])
        (.seq (.cond (.t 12) (.skip)
          (.exit 0))
         (.seq (.block 1 (.seq (.reg [⟨(some 13), .mv (.t 11), none, [], [], []⟩,
             ⟨(some 4), .mv (.t 13), none, [13], [], []⟩])
            (.seq (.seq (.reg [⟨(some 14), .mv (.t 4), none, [], [], []⟩,
               ⟨(some 15), .bin .lss (.t 14) (.c (.int .i64 16)), none, [14], [], []⟩])
              (.cond (.t 15) (.seq (.seq (.reg [⟨(some 16), .mv (.t 0), none, [], [], []⟩,
                  ⟨(some 17), .mv (.t 4), none, [], [], []⟩,
                  ⟨(some 18), .bin .mul (.c (.int .i64 4)) (.t 17), none, [17], [], []⟩,
                  ⟨(some 19), .mv (.t 4), none, [], [], []⟩,
                  ⟨(some 20), .bin .mul (.c (.int .i64 4)) (.t 19), none, [19], [], []⟩,
                  ⟨(some 21), .bin .add (.t 20) (.c (.int .i64 4)), none, [20], [], []⟩,
                  ⟨(some 22), .slcS 1 (.t 16) (some (.t 18)) (some (.t 21)), none, [16, 18, 21], [], []⟩,
                  ⟨(some 23), .len false (.t 22), none, [], [], []⟩,
                  ⟨(some 24), .mv (.c (.int .i64 0)), none, [], [], []⟩])
                 (.block 2 (.loop (.seq (.reg [⟨(some 25), .bin .lss (.t 24) (.t 23), none, [], [], []⟩])
                    (.seq (.cond (.t 25) (.skip)
                      (.exit 2))
                     (.seq (.block 3 (.seq (.reg [⟨(some 26), .idxS (.t 22) (.t 24) 1, none, [], [], []⟩,
                         ⟨(some 27), .load none (.t 26), none, [26], [], []⟩,
                         ⟨(some 6), .mv (.t 27), none, [27], [], []⟩])
                        (.reg [⟨(some 28), .mv (.t 4), none, [], [], []⟩,
                         ⟨(some 29), .mv (.t 4), none, [], [], []⟩,
                         ⟨(some 30), .idxA (.t 3) (.t 29) 64 1, none, [29], [], []⟩,
                         ⟨(some 31), .load none (.t 30), none, [30], [], []⟩,
                         ⟨(some 32), .bin .shl (.t 31) (.c (.int .u64 8)), none, [31], [], []⟩,
                         ⟨(some 33), .mv (.t 6), none, [6], [], []⟩,
                         ⟨(some 34), .conv .u32 (.t 33), none, [33], [], []⟩,
                         ⟨(some 35), .bin .or (.t 32) (.t 34), none, [32, 34], [], []⟩,
                         ⟨(some 36), .idxA (.t 3) (.t 28) 64 1, none, [28], [], []⟩,
                         ⟨none, .store 1 (.t 36) (.t 35), none, [35, 36], [], []⟩])))
                      (.reg [⟨(some 37), .bin .add (.t 24) (.c (.int .i64 1)), none, [24], [], []⟩,
                       ⟨(some 24), .mv (.t 37), none, [37], [], []⟩])))))))
                (.exit 1))
               (.skip)))
             (.seq (.regP 9 [⟨(some 38), .mv (.t 4), none, [], [], [42, 43, 44, 45]⟩,
               ⟨(some 39), .bin .sub (.t 38) (.c (.int .i64 15)), none, [], [0], [42, 43, 44, 45]⟩,
               ⟨(some 40), .idxA (.t 3) (.t 39) 64 1, none, [], [0, 1], [42, 43, 44, 45]⟩,
               ⟨(some 41), .load none (.t 40), none, [], [0, 1, 2], [42, 43, 44, 45]⟩,
               ⟨(some 42), .mv (.t 4), none, [], [], [7, 38, 39, 40, 41]⟩,
               ⟨(some 43), .bin .sub (.t 42) (.c (.int .i64 2)), none, [], [4], [7, 38, 39, 40, 41]⟩,
               ⟨(some 44), .idxA (.t 3) (.t 43) 64 1, none, [], [4, 5], [7, 38, 39, 40, 41]⟩,
               ⟨(some 45), .load none (.t 44), none, [], [4, 5, 6], [7, 38, 39, 40, 41]⟩,
               ⟨(some 7), .mv (.t 41), none, [38, 39, 40, 41, 42, 43, 44], [0, 1, 2, 3], [42, 43, 44, 45]⟩,
               ⟨(some 8), .mv (.t 45), none, [45], [0, 1, 2, 3, 4, 5, 6, 7, 8], []⟩])
              (.seq (.reg [⟨(some 46), .mv (.t 7), none, [], [], []⟩,
                ⟨(some 47), .callp 104 [.t 46, .c (.int .i64 (-7))], none, [46], [], []⟩,
                ⟨(some 48), .mv (.t 7), none, [], [], []⟩,
                ⟨(some 49), .callp 104 [.t 48, .c (.int .i64 (-18))], none, [48], [], []⟩,
                ⟨(some 50), .bin .xor (.t 47) (.t 49), none, [47, 49], [], []⟩,
                ⟨(some 51), .mv (.t 7), none, [7], [], []⟩,
                ⟨(some 52), .bin .shr (.t 51) (.c (.int .u64 3)), none, [51], [], []⟩,
                ⟨(some 53), .bin .xor (.t 50) (.t 52), none, [50, 52], [], []⟩,
                ⟨(some 9), .mv (.t 53), none, [53], [], []⟩])
               (.seq (.reg [⟨(some 54), .mv (.t 8), none, [], [], []⟩,
                 ⟨(some 55), .callp 104 [.t 54, .c (.int .i64 (-17))], none, [54], [], []⟩,
                 ⟨(some 56), .mv (.t 8), none, [], [], []⟩,
                 ⟨(some 57), .callp 104 [.t 56, .c (.int .i64 (-19))], none, [56], [], []⟩,
                 ⟨(some 58), .bin .xor (.t 55) (.t 57), none, [55, 57], [], []⟩,
                 ⟨(some 59), .mv (.t 8), none, [8], [], []⟩,
                 ⟨(some 60), .bin .shr (.t 59) (.c (.int .u64 10)), none, [59], [], []⟩,
                 ⟨(some 61), .bin .xor (.t 58) (.t 60), none, [58, 60], [], []⟩,
                 ⟨(some 10), .mv (.t 61), none, [61], [], []⟩])
                (.regP 14 [⟨(some 62), .mv (.t 4), none, [], [], [63, 64, 65, 66, 67, 68, 69, 70, 71, 72, 73, 74, 75]⟩,
                 ⟨(some 63), .mv (.t 4), none, [], [], [62, 67, 69, 70, 71, 72, 74]⟩,
                 ⟨(some 64), .bin .sub (.t 63) (.c (.int .i64 16)), none, [], [1], [62, 67, 69, 70, 71, 72, 74]⟩,
                 ⟨(some 65), .idxA (.t 3) (.t 64) 64 1, none, [], [1, 2], [62, 67, 69, 70, 71, 72, 74]⟩,
                 ⟨(some 66), .load none (.t 65), none, [], [1, 2, 3], [62, 67, 69, 70, 71, 72, 74]⟩,
                 ⟨(some 67), .mv (.t 9), none, [], [], [62, 63, 64, 65, 66, 69, 70, 71, 72, 74]⟩,
                 ⟨(some 68), .bin .add (.t 66) (.t 67), none, [], [1, 2, 3, 4, 5], [62, 69, 70, 71, 72, 74]⟩,
                 ⟨(some 69), .mv (.t 4), none, [], [], [62, 63, 64, 65, 66, 67, 68, 74]⟩,
                 ⟨(some 70), .bin .sub (.t 69) (.c (.int .i64 7)), none, [], [7], [62, 63, 64, 65, 66, 67, 68, 74]⟩,
                 ⟨(some 71), .idxA (.t 3) (.t 70) 64 1, none, [], [7, 8], [62, 63, 64, 65, 66, 67, 68, 74]⟩,
                 ⟨(some 72), .load none (.t 71), none, [], [7, 8, 9], [62, 63, 64, 65, 66, 67, 68, 74]⟩,
                 ⟨(some 73), .bin .add (.t 68) (.t 72), none, [], [1, 2, 3, 4, 5, 6, 7, 8, 9, 10], [62, 74]⟩,
                 ⟨(some 74), .mv (.t 10), none, [], [], [62, 63, 64, 65, 66, 67, 68, 69, 70, 71, 72, 73]⟩,
                 ⟨(some 75), .bin .add (.t 73) (.t 74), none, [4, 9, 10, 63, 64, 65, 66, 67, 68, 69, 70, 71, 72, 73, 74], [1, 2, 3, 4, 5, 6, 7, 8, 9, 10, 11, 12], [62]⟩,
                 ⟨(some 76), .idxA (.t 3) (.t 62) 64 1, none, [62], [0, 1, 2, 3, 4, 5, 6, 7, 8, 9, 10, 11, 12, 13], []⟩,
                 ⟨none, .store 1 (.t 76) (.t 75), none, [75, 76], [0, 1, 2, 3, 4, 5, 6, 7, 8, 9, 10, 11, 12, 13, 14], []⟩])))))))
          (.reg [⟨(some 77), .bin .add (.t 11) (.c (.int .i64 1)), none, [11], [], []⟩,
           ⟨(some 11), .mv (.t 77), none, [77], [], []⟩])))))))
    (.seq (.reg [⟨(some 78), .load (some 64) (.t 3), none, [3], [], []⟩,
      ⟨none, .store 64 (.t 2) (.t 78), none, [78], [], []⟩])
     (.ret))))⟩
theorem chk86 : chkF Tryd.prog 86 sf86 = true := by kernel_rfl
/-- custody/hash.mix -/
def sf87 : SF := ⟨23, [.t 8],
 .seq (.reg [⟨(some 8), .mv (.c (.int .u32 0)), none, [8], [], []⟩])
  (.seq (.reg [⟨(some 9), .mv (.t 0), none, [], [], []⟩,
    ⟨(some 10), .mv (.t 1), none, [1], [], []⟩,
    ⟨(some 11), .un .neg (.t 10), none, [10], [], []⟩,
    ⟨(some 12), .callp 104 [.t 9, .t 11], none, [9, 11], [], []⟩,
    ⟨(some 13), .mv (.t 0), none, [], [], []⟩,
    ⟨(some 14), .mv (.t 2), none, [2], [], []⟩,
    ⟨(some 15), .un .neg (.t 14), none, [14], [], []⟩,
    ⟨(some 16), .callp 104 [.t 13, .t 15], none, [13, 15], [], []⟩,
    ⟨(some 17), .bin .xor (.t 12) (.t 16), none, [12, 16], [], []⟩,
    ⟨(some 18), .mv (.t 0), none, [0], [], []⟩,
    ⟨(some 19), .mv (.t 3), none, [3], [], []⟩,
    ⟨(some 20), .un .neg (.t 19), none, [19], [], []⟩,
    ⟨(some 21), .callp 104 [.t 18, .t 20], none, [18, 20], [], []⟩,
    ⟨(some 22), .bin .xor (.t 17) (.t 21), none, [17, 21], [], []⟩,
    ⟨(some 8), .mv (.t 22), none, [22], [], []⟩])
   (.ret))⟩
theorem chk87 : chkF Tryd.prog 87 sf87 = true := by kernel_rfl
/-- math/bits.RotateLeft32 -/
def sf104 : SF := ⟨17, [.t 4],
 .seq (.reg [⟨(some 4), .mv (.c (.int .u32 0)), none, [4], [], []⟩])
  (.seq (.reg [⟨(some 6), .mv (.t 1), none, [1], [], []⟩,
    ⟨(some 7), .conv .u64 (.t 6), none, [6], [], []⟩,
    ⟨(some 8), .bin .and (.t 7) (.c (.int .u64 31)), none, [7], [], []⟩,
    ⟨(some 5), .mv (.t 8), none, [8], [], []⟩])
   (.seq (.reg [⟨(some 9), .mv (.t 0), none, [], [], []⟩,
     ⟨(some 10), .mv (.t 5), none, [], [], []⟩,
     ⟨(some 11), .bin .shl (.t 9) (.t 10), none, [9, 10], [], []⟩,
     ⟨(some 12), .mv (.t 0), none, [0], [], []⟩,
     ⟨(some 13), .mv (.t 5), none, [5], [], []⟩,
     ⟨(some 14), .bin .sub (.c (.int .u64 32)) (.t 13), none, [13], [], []⟩,
     ⟨(some 15), .bin .shr (.t 12) (.t 14), none, [12, 14], [], []⟩,
     ⟨(some 16), .bin .or (.t 11) (.t 15), none, [11, 15], [], []⟩,
     ⟨(some 4), .mv (.t 16), none, [16], [], []⟩])
    (.ret)))⟩
theorem chk104 : chkF Tryd.prog 104 sf104 = true := by kernel_rfl
end Go.Proofs.YtkfbkooobfepeaaDoor.Sf

/- The sanity of the laws, carried out. -/
namespace Go.Proofs.YtkfbkooobfepeaaDoor
open Go Go.Sx Sf
set_option maxRecDepth 100000
set_option linter.unusedSimpArgs false
set_option linter.unusedVariables false

/-- the functions that are reached -/
def tbL : List (FuncId × SF) := [(9, sf9), (10, sf10), (12, sf12), (14, sf14), (15, sf15), (16, sf16), (18, sf18), (20, sf20), (22, sf22), (24, sf24), (26, sf26), (28, sf28), (29, sf29), (30, sf30), (31, sf31), (32, sf32), (33, sf33), (34, sf34), (39, sf39), (41, sf41), (43, sf43), (44, sf44), (45, sf45), (46, sf46), (47, sf47), (51, sf51), (52, sf52), (53, sf53), (54, sf54), (57, sf57), (58, sf58), (59, sf59), (60, sf60), (61, sf61), (69, sf69), (70, sf70), (75, sf75), (76, sf76), (85, sf85)]
def tb : FuncId → Option SF := lookF tbL
theorem tb_ok : TbOk Tryd.prog tb := by
  intro f sf h
  have hm := lookF_mem h
  simp only [tbL, List.mem_cons, Prod.mk.injEq, List.not_mem_nil, or_false] at hm
  rcases hm with ⟨rfl, rfl⟩ | ⟨rfl, rfl⟩ | ⟨rfl, rfl⟩ | ⟨rfl, rfl⟩ | ⟨rfl, rfl⟩ | ⟨rfl, rfl⟩ | ⟨rfl, rfl⟩ | ⟨rfl, rfl⟩ | ⟨rfl, rfl⟩ | ⟨rfl, rfl⟩ | ⟨rfl, rfl⟩ | ⟨rfl, rfl⟩ | ⟨rfl, rfl⟩ | ⟨rfl, rfl⟩ | ⟨rfl, rfl⟩ | ⟨rfl, rfl⟩ | ⟨rfl, rfl⟩ | ⟨rfl, rfl⟩ | ⟨rfl, rfl⟩ | ⟨rfl, rfl⟩ | ⟨rfl, rfl⟩ | ⟨rfl, rfl⟩ | ⟨rfl, rfl⟩ | ⟨rfl, rfl⟩ | ⟨rfl, rfl⟩ | ⟨rfl, rfl⟩ | ⟨rfl, rfl⟩ | ⟨rfl, rfl⟩ | ⟨rfl, rfl⟩ | ⟨rfl, rfl⟩ | ⟨rfl, rfl⟩ | ⟨rfl, rfl⟩ | ⟨rfl, rfl⟩ | ⟨rfl, rfl⟩ | ⟨rfl, rfl⟩ | ⟨rfl, rfl⟩ | ⟨rfl, rfl⟩ | ⟨rfl, rfl⟩ | ⟨rfl, rfl⟩
  · exact chk9
  · exact chk10
  · exact chk12
  · exact chk14
  · exact chk15
  · exact chk16
  · exact chk18
  · exact chk20
  · exact chk22
  · exact chk24
  · exact chk26
  · exact chk28
  · exact chk29
  · exact chk30
  · exact chk31
  · exact chk32
  · exact chk33
  · exact chk34
  · exact chk39
  · exact chk41
  · exact chk43
  · exact chk44
  · exact chk45
  · exact chk46
  · exact chk47
  · exact chk51
  · exact chk52
  · exact chk53
  · exact chk54
  · exact chk57
  · exact chk58
  · exact chk59
  · exact chk60
  · exact chk61
  · exact chk69
  · exact chk70
  · exact chk75
  · exact chk76
  · exact chk85
end Go.Proofs.YtkfbkooobfepeaaDoor

/- SHA-256 of package hash: the rotations. -/
namespace Go.Proofs.YtkfbkooobfepeaaDoor
open Go Go.Sx Sf
set_option maxRecDepth 100000
set_option linter.unusedSimpArgs false
set_option linter.unusedVariables false

variable {tS : List (Nat × List SV)}
def tab0 : Tab := ⟨[], []⟩
theorem tab0_ok : TabX Tryd.prog tS tab0 := ⟨fun x h => by simp [tab0] at h, fun x h => by simp [tab0] at h⟩

theorem rot_amt {r : Nat} (h1 : 1 ≤ r) (h2 : r ≤ 31) : bitop .and .u64 (IntKind.u64.wrap (-(r : Int))) 31 = ((32 - r : Nat) : Int) ∧
    IntKind.u64.wrap (32 - ((32 - r : Nat) : Int)) = (r : Int) := by
  have : ∀ r : Fin 32, 1 ≤ r.val → bitop .and .u64 (IntKind.u64.wrap (-(r.val : Int))) 31 = ((32 - r.val : Nat) : Int) ∧ IntKind.u64.wrap (32 - ((32 - r.val : Nat) : Int)) = (r.val : Int) := by decide
  exact this ⟨r, by omega⟩ h1

/-- a turn to the right, of whatever number -/
def rotI (n : Int) (r : Nat) : Int := bitop .or .u32 (IntKind.u32.wrap (n * 2 ^ (min (32 - r) IntKind.u32.bits))) (n.fdiv (2 ^ (min r IntKind.u32.bits)))
theorem rotI_w (x : W32) (r : Nat) (h2 : r ≤ 32) : rotI (x.toNat : Int) r = ((rotr r x).toNat : Int) := by
  unfold rotI
  rw [w_shl x (32 - r) (by omega), w_shr x r h2, w_or]; rfl
theorem f104 (n : Int) (r : Nat) (h1 : 1 ≤ r) (h2 : r ≤ 31) : Fun Tryd.prog tS 104 [.int .u32 n, .int .i64 (-(r : Int))] [] 0 (.int .u32 (rotI n r)) [] 0 := by
  refine fun_pure none (callX tab0) (callX_ok tab0_ok) chk104 (show 2 ≤ 17 by decide) (fun _ => rfl) ?_
  unfold sf104
  obtain ⟨e1, e2⟩ := rot_amt h1 h2
  have e3 : (0 : Int) ≤ ((32 - r : Nat) : Int) := by omega
  have e4 : (0 : Int) ≤ (r : Int) := by omega
  have t1 : ((32 - r : Nat) : Int).toNat = 32 - r := by omega
  have t2 : ((r : Nat) : Int).toNat = r := by omega
  simp (config := { maxSteps := 1000000 }) only [e1, e2, e3, e4, t1, t2, rotI, tab0, SV.flatL, SV.flat, Bool.and_true, Bool.and_self, Bool.true_and, beq_self_eq_true, Int.reduceGE, Int.reduceGT, ↓u_callAnd, Blk.mk.injEq, List.cons.injEq, SV.int.injEq, SV.bool.injEq, SV.tup.injEq, SV.agg.injEq, and_self, undef, Int.reduceBNe, Int.reduceBEq, Nat.reduceBNe, Nat.reduceBEq, ↓u_callX, lookF, setv, finO_r, finO_n, finO_x, again_n, again_x, again_r, lookT, eqPat, eqTag, reduceCtorEq, Nat.reduceEqDiff, Nat.reduceAdd, Nat.reduceSub, Nat.reduceMul, Nat.reduceDiv, Nat.reduceLeDiff, Nat.reduceLT, Int.reduceToNat, Int.reduceLT, Int.reduceLE, Int.reduceAdd, Int.reduceSub, Int.reduceMul, Int.reduceNeg, Int.reduceEq, Int.reduceNe, wrap64, false_imp_iff, true_imp_iff, eq_self, decide_true, decide_false, Int.cast_ofNat_Int,  true_and, and_true, false_and, and_false, imp_self, implies_true, List.getElem?_cons_zero, List.getElem?_cons_succ, List.length_cons, List.length_nil, List.append_nil, List.nil_append, List.cons_append, List.take_succ_cons, List.take_zero, List.drop_succ_cons, List.drop_zero, List.take_nil, List.drop_nil, List.reverse_cons, List.reverse_nil, List.map_cons, List.map_nil, Nat.zero_add, Nat.add_zero, frOf, den_nil, den_o0, ↓gd_tt, ↓gd_ff, ↓gd_tf, ↓gd_ft, gd_any, den_o1, kont_app, den_g, setv, Bool.not_true, Bool.not_false, den_skip, den_reg, den_regD, den_regP, den_A, den_regW, den_W, den_bad, evW, baseD, stBlk, touch, clear, untouched, updsW, List.all_cons, List.all_nil, List.contains_cons, List.contains_nil, Bool.not_true, Bool.not_false, Bool.or_false, Bool.or_self, Bool.false_or, Bool.true_or, Bool.or_true, den_seq, den_cond, den_block, den_exit, den_ret, den_b, den_xb, den_xo, den_xc, den_xu, den_rb, den_ro, den_rc, den_ru, den_u, den_loopU, finP_r, finP_n, finP_x, finE_r, finE_n, finE_x, ↓reduceIte, ↓e_box, ↓e_build, ↓e_bslice, ↓e_load, ↓e_store, ↓e_idxS, ↓e_idxV, ↓e_idxT, ↓e_fieldV, ↓e_eqv, ↓e_isNil, ↓e_b2s, ↓e_slcS, ↓e_arrAt, ↓e_ext, ↓e_app, ↓e_copy, ↓e_mv, ↓e_pick, ↓e_new, ↓e_nilc, ↓e_fld, ↓e_idxA, ↓e_bin, ↓e_eqb, ↓e_un, ↓e_conv, ↓e_strS, ↓e_s2b, ↓e_mkfn, ↓e_mksl, ↓e_slcA, ↓e_slcT, ↓e_call, ↓e_callp, ↓e_callv, ↓e_len, ↓e_lenA, ↓e_mx, ↓e_mn, ↓e_mkmap, ↓e_mput, ↓e_mlen, ↓e_mk8, ↓e_capN, ↓e_appZ, ↓u_onInt, ↓u_onBool, ↓u_onOpt0, ↓u_onOpt1, ↓u_binV, ↓u_srcOf, ↓u_srcSl, ↓binI, ↓binS, ↓fillE, ↓evRes, evA, Opd.ev, Sx.get, put, putO, del, dels, frD, memD, pickD, kills, views, newer, rd, rm, upd, splice, keysOf, kvOf, SV.cells?, SV.one, retOf]

def gRot : List SV → Option SV
  | [.int .u32 n, .int .i64 (.negSucc k)] => if k + 1 ≤ 31 then some (.int .u32 (rotI n (k + 1))) else none
  | _ => none
theorem g104 {n : Int} {r : Nat} (h1 : 1 ≤ r) (h2 : r ≤ 31) : gRot [.int .u32 n, .int .i64 (-(r : Int))] = some (.int .u32 (rotI n r)) := by
  obtain ⟨k, rfl⟩ : ∃ k, r = k + 1 := ⟨r - 1, by omega⟩
  show gRot [.int .u32 n, .int .i64 (.negSucc k)] = _
  simp only [gRot]
  rw [if_pos h2]
def tab1 : Tab := ⟨[(104, gRot)], []⟩
theorem tab1_ok : TabX Tryd.prog tS tab1 := by
  refine ⟨fun x h args r hr => ?_, fun x h => by simp [tab1] at h⟩
  simp only [tab1, List.mem_singleton] at h
  subst h
  simp only at hr
  unfold gRot at hr
  split at hr
  · rename_i n k
    split at hr
    · rename_i hc
      cases hr
      exact ⟨f104 n (k + 1) (by omega) hc, fun η => by simp only [SV.renL, SV.ren], fun η => by simp only [SV.renL, SV.ren]⟩
    · cases hr
  · cases hr

def mixI (n : Int) (i j k : Nat) : Int := bitop .xor .u32 (bitop .xor .u32 (rotI n i) (rotI n j)) (rotI n k)
theorem f87 (n : Int) (i j k : Nat) (hi : 1 ≤ i ∧ i ≤ 31) (hj : 1 ≤ j ∧ j ≤ 31) (hk : 1 ≤ k ∧ k ≤ 31) :
    Fun Tryd.prog tS 87 [.int .u32 n, .int .i64 (i : Int), .int .i64 (j : Int), .int .i64 (k : Int)] [] 0 (.int .u32 (mixI n i j k)) [] 0 := by
  refine fun_pure none (callX tab1) (callX_ok tab1_ok) chk87 (show 4 ≤ 23 by decide) (fun _ => rfl) ?_
  unfold sf87
  have G1 := @g104 n i hi.1 hi.2
  have G2 := @g104 n j hj.1 hj.2
  have G3 := @g104 n k hk.1 hk.2
  have w1 : IntKind.i64.wrap (0 - (i : Int)) = -(i : Int) := by rw [wrap64 (by omega) (by omega)]; omega
  have w2 : IntKind.i64.wrap (0 - (j : Int)) = -(j : Int) := by rw [wrap64 (by omega) (by omega)]; omega
  have w3 : IntKind.i64.wrap (0 - (k : Int)) = -(k : Int) := by rw [wrap64 (by omega) (by omega)]; omega
  simp (config := { maxSteps := 1000000 }) only [w1, w2, w3, ↓G1, ↓G2, ↓G3, mixI, tab1, SV.flatL, SV.flat, Bool.and_true, Bool.and_self, Bool.true_and, beq_self_eq_true, Int.reduceGE, Int.reduceGT, ↓u_callAnd, Blk.mk.injEq, List.cons.injEq, SV.int.injEq, SV.bool.injEq, SV.tup.injEq, SV.agg.injEq, and_self, undef, Int.reduceBNe, Int.reduceBEq, Nat.reduceBNe, Nat.reduceBEq, ↓u_callX, lookF, setv, finO_r, finO_n, finO_x, again_n, again_x, again_r, lookT, eqPat, eqTag, reduceCtorEq, Nat.reduceEqDiff, Nat.reduceAdd, Nat.reduceSub, Nat.reduceMul, Nat.reduceDiv, Nat.reduceLeDiff, Nat.reduceLT, Int.reduceToNat, Int.reduceLT, Int.reduceLE, Int.reduceAdd, Int.reduceSub, Int.reduceMul, Int.reduceNeg, Int.reduceEq, Int.reduceNe, wrap64, false_imp_iff, true_imp_iff, eq_self, decide_true, decide_false, Int.cast_ofNat_Int,  true_and, and_true, false_and, and_false, imp_self, implies_true, List.getElem?_cons_zero, List.getElem?_cons_succ, List.length_cons, List.length_nil, List.append_nil, List.nil_append, List.cons_append, List.take_succ_cons, List.take_zero, List.drop_succ_cons, List.drop_zero, List.take_nil, List.drop_nil, List.reverse_cons, List.reverse_nil, List.map_cons, List.map_nil, Nat.zero_add, Nat.add_zero, frOf, den_nil, den_o0, ↓gd_tt, ↓gd_ff, ↓gd_tf, ↓gd_ft, gd_any, den_o1, kont_app, den_g, setv, Bool.not_true, Bool.not_false, den_skip, den_reg, den_regD, den_regP, den_A, den_regW, den_W, den_bad, evW, baseD, stBlk, touch, clear, untouched, updsW, List.all_cons, List.all_nil, List.contains_cons, List.contains_nil, Bool.not_true, Bool.not_false, Bool.or_false, Bool.or_self, Bool.false_or, Bool.true_or, Bool.or_true, den_seq, den_cond, den_block, den_exit, den_ret, den_b, den_xb, den_xo, den_xc, den_xu, den_rb, den_ro, den_rc, den_ru, den_u, den_loopU, finP_r, finP_n, finP_x, finE_r, finE_n, finE_x, ↓reduceIte, ↓e_box, ↓e_build, ↓e_bslice, ↓e_load, ↓e_store, ↓e_idxS, ↓e_idxV, ↓e_idxT, ↓e_fieldV, ↓e_eqv, ↓e_isNil, ↓e_b2s, ↓e_slcS, ↓e_arrAt, ↓e_ext, ↓e_app, ↓e_copy, ↓e_mv, ↓e_pick, ↓e_new, ↓e_nilc, ↓e_fld, ↓e_idxA, ↓e_bin, ↓e_eqb, ↓e_un, ↓e_conv, ↓e_strS, ↓e_s2b, ↓e_mkfn, ↓e_mksl, ↓e_slcA, ↓e_slcT, ↓e_call, ↓e_callp, ↓e_callv, ↓e_len, ↓e_lenA, ↓e_mx, ↓e_mn, ↓e_mkmap, ↓e_mput, ↓e_mlen, ↓e_mk8, ↓e_capN, ↓e_appZ, ↓u_onInt, ↓u_onBool, ↓u_onOpt0, ↓u_onOpt1, ↓u_binV, ↓u_srcOf, ↓u_srcSl, ↓binI, ↓binS, ↓fillE, ↓evRes, evA, Opd.ev, Sx.get, put, putO, del, dels, frD, memD, pickD, kills, views, newer, rd, rm, upd, splice, keysOf, kvOf, SV.cells?, SV.one, retOf]
end Go.Proofs.YtkfbkooobfepeaaDoor

/- SHA-256 of package hash: the schedule. -/
namespace Go.Proofs.YtkfbkooobfepeaaDoor
open Go Go.Sx Sf
set_option maxRecDepth 100000
set_option linter.unusedSimpArgs false
set_option linter.unusedVariables false

variable {tS : List (Nat × List SV)}
def u8 (n : Int) : SV := .int .u8 n
def addI (a b : Int) : Int := IntKind.u32.wrap (a + b)
def shrI (n : Int) (r : Nat) : Int := n.fdiv (2 ^ (min r IntKind.u32.bits))
def pushB (w c : Int) : Int := bitop .or .u32 (IntKind.u32.wrap (w * 2 ^ (min 8 IntKind.u32.bits))) (IntKind.u32.wrap c)
def be4 (b : List Int) (t : Nat) : Int := pushB (pushB (pushB (pushB 0 (b.getD (4 * t) 0)) (b.getD (4 * t + 1) 0)) (b.getD (4 * t + 2) 0)) (b.getD (4 * t + 3) 0)
def sig0 (p : Int) : Int := bitop .xor .u32 (bitop .xor .u32 (rotI p 7) (rotI p 18)) (shrI p 3)
def sig1 (q : Int) : Int := bitop .xor .u32 (bitop .xor .u32 (rotI q 17) (rotI q 19)) (shrI q 10)
def nxt (b l : List Int) (t : Nat) : Int :=
  if t < 16 then be4 b t else addI (addI (addI (l.getD (t - 16) 0) (sig0 (l.getD (t - 15) 0))) (l.getD (t - 7) 0)) (sig1 (l.getD (t - 2) 0))
def schI (b : List Int) : Nat → List Int
  | 0 => []
  | t + 1 => schI b t ++ [nxt b (schI b t) t]
theorem schI_len (b : List Int) : ∀ t, (schI b t).length = t
  | 0 => rfl
  | t + 1 => by simp [schI, schI_len b t]
def cW (b : List Int) (t : Nat) : List SV := (schI b t).map u32 ++ List.replicate (64 - t) (u32 0)
theorem cW_len {b : List Int} {t : Nat} (h : t ≤ 64) : (cW b t).length = 64 := by simp [cW, schI_len]; omega
theorem cW_get {b : List Int} {t j : Nat} (h : j < t) : (cW b t)[j]? = some (u32 ((schI b t).getD j 0)) := by
  unfold cW
  rw [List.getElem?_append_left (by simp [schI_len, h])]
  simp [List.getD_eq_getElem?_getD, schI_len, h]
theorem cW_new {b : List Int} {t : Nat} (h : t < 64) : (cW b t)[t]? = some (u32 0) := by
  unfold cW
  rw [List.getElem?_append_right (by simp [schI_len]), List.getElem?_replicate, if_pos (by simp only [List.length_map, schI_len]; omega)]
def cM (b : List Int) (t : Nat) (v : SV) : List SV := (schI b t).map u32 ++ v :: List.replicate (63 - t) (u32 0)
theorem cW_put {b : List Int} {t : Nat} (h : t < 64) (v : SV) : splice (cW b t) t [v] = cM b t v := by
  unfold splice cW cM
  have e : 64 - t = (63 - t) + 1 := by omega
  rw [List.take_left' (by simp [schI_len]), e, List.replicate_succ]
  simp [List.drop_append, schI_len]
theorem cM_len {b : List Int} {t : Nat} (h : t < 64) (v : SV) : (cM b t v).length = 64 := by simp [cM, schI_len]; omega
theorem cM_get {b : List Int} {t : Nat} (v : SV) : (cM b t v)[t]? = some v := by
  unfold cM
  rw [List.getElem?_append_right (by simp [schI_len])]
  simp [schI_len]
theorem cM_put {b : List Int} {t : Nat} (v v' : SV) : splice (cM b t v) t [v'] = cM b t v' := by
  unfold splice cM
  rw [List.take_left' (by simp [schI_len])]
  simp [List.drop_append, schI_len]
theorem cM_step {b : List Int} {t : Nat} : cM b t (.int .u32 (nxt b (schI b t) t)) = cW b (t + 1) := by
  unfold cM cW
  simp only [schI, List.map_append, List.map_cons, List.map_nil, List.append_assoc, List.cons_append, List.nil_append]
  rw [show 64 - (t + 1) = 63 - t by omega]; rfl
theorem cW_ren (η : Nat → Nat × Nat) (b : List Int) (t : Nat) : SV.renL η (cW b t) = cW b t := by
  rw [SV.renL_eq]
  unfold cW
  simp [u32, SV.ren]
theorem cM_ren (η : Nat → Nat × Nat) (b : List Int) (t : Nat) (n : Int) : SV.renL η (cM b t (.int .u32 n)) = cM b t (.int .u32 n) := by
  rw [SV.renL_eq]
  unfold cM
  simp [u32, SV.ren]
theorem u8_ren (η : Nat → Nat × Nat) (b : List Int) : SV.renL η (b.map u8) = b.map u8 := by
  rw [SV.renL_eq]
  simp [u8, SV.ren]
def z64 : List SV := List.replicate 64 (.int .u32 0)
theorem z64_ren (η : Nat → Nat × Nat) : SV.renL η z64 = z64 := by
  rw [SV.renL_eq]
  unfold z64
  rw [List.map_replicate]; rfl
theorem cW_all (b : List Int) : cW b 64 = (schI b 64).map u32 := by simp [cW]
theorem ren_u32 (η : Nat → Nat × Nat) (l : List Int) : (SV.agg (l.map u32)).ren η = SV.agg (l.map u32) := by
  simp only [SV.ren, SV.renL_eq, List.map_map]
  congr 1
theorem f86 (b : List Int) (hb : b.length = 64) (cap : Option Nat) (hcap : CapOk cap 64) : Fun Tryd.prog tS 86 [.slc 0 0 1 64 cap] [(0, ⟨.view, b.map u8⟩)] 1 (.agg ((schI b 64).map u32)) [] 1 := by
  refine fun_val none (callX tab1) (callX_ok tab1_ok) chk86 (show 1 ≤ 79 by decide) (fun η => ren_u32 η _) ?_
  unfold sf86
  simp (config := { maxSteps := 1000000 }) only [tab1, SV.flatL, SV.flat, Bool.and_true, Bool.and_self, Bool.true_and, beq_self_eq_true, Int.reduceGE, Int.reduceGT, ↓u_callAnd, Blk.mk.injEq, List.cons.injEq, SV.int.injEq, SV.bool.injEq, SV.tup.injEq, SV.agg.injEq, and_self, undef, Int.reduceBNe, Int.reduceBEq, Nat.reduceBNe, Nat.reduceBEq, ↓u_callX, lookF, setv, finO_r, finO_n, finO_x, again_n, again_x, again_r, lookT, eqPat, eqTag, reduceCtorEq, Nat.reduceEqDiff, Nat.reduceAdd, Nat.reduceSub, Nat.reduceMul, Nat.reduceDiv, Nat.reduceLeDiff, Nat.reduceLT, Int.reduceToNat, Int.reduceLT, Int.reduceLE, Int.reduceAdd, Int.reduceSub, Int.reduceMul, Int.reduceNeg, Int.reduceEq, Int.reduceNe, wrap64, false_imp_iff, true_imp_iff, eq_self, decide_true, decide_false, Int.cast_ofNat_Int,  true_and, and_true, false_and, and_false, imp_self, implies_true, List.getElem?_cons_zero, List.getElem?_cons_succ, List.length_cons, List.length_nil, List.append_nil, List.nil_append, List.cons_append, List.take_succ_cons, List.take_zero, List.drop_succ_cons, List.drop_zero, List.take_nil, List.drop_nil, List.reverse_cons, List.reverse_nil, List.map_cons, List.map_nil, Nat.zero_add, Nat.add_zero, frOf, den_nil, den_o0, ↓gd_tt, ↓gd_ff, ↓gd_tf, ↓gd_ft, gd_any, den_o1, kont_app, den_g, setv, Bool.not_true, Bool.not_false, den_skip, den_reg, den_regD, den_regP, den_A, den_regW, den_W, den_bad, evW, baseD, stBlk, touch, clear, untouched, updsW, List.all_cons, List.all_nil, List.contains_cons, List.contains_nil, Bool.not_true, Bool.not_false, Bool.or_false, Bool.or_self, Bool.false_or, Bool.true_or, Bool.or_true, den_seq, den_cond, den_block, den_exit, den_ret, den_b, den_xb, den_xo, den_xc, den_xu, den_rb, den_ro, den_rc, den_ru, den_u, den_loopU, finP_r, finP_n, finP_x, finE_r, finE_n, finE_x, ↓reduceIte, ↓e_box, ↓e_build, ↓e_bslice, ↓e_load, ↓e_store, ↓e_idxS, ↓e_idxV, ↓e_idxT, ↓e_fieldV, ↓e_eqv, ↓e_isNil, ↓e_b2s, ↓e_slcS, ↓e_arrAt, ↓e_ext, ↓e_app, ↓e_copy, ↓e_mv, ↓e_pick, ↓e_new, ↓e_nilc, ↓e_fld, ↓e_idxA, ↓e_bin, ↓e_eqb, ↓e_un, ↓e_conv, ↓e_strS, ↓e_s2b, ↓e_mkfn, ↓e_mksl, ↓e_slcA, ↓e_slcT, ↓e_call, ↓e_callp, ↓e_callv, ↓e_len, ↓e_lenA, ↓e_mx, ↓e_mn, ↓e_mkmap, ↓e_mput, ↓e_mlen, ↓e_mk8, ↓e_capN, ↓e_appZ, ↓u_onInt, ↓u_onBool, ↓u_onOpt0, ↓u_onOpt1, ↓u_binV, ↓u_srcOf, ↓u_srcSl, ↓binI, ↓binS, ↓fillE, ↓evRes, evA, Opd.ev, Sx.get, put, putO, del, dels, frD, memD, pickD, kills, views, newer, rd, rm, upd, splice, keysOf, kvOf, SV.cells?, SV.one, retOf]
  rw [den_loop]
  have hW := fun η t => cW_ren η b t
  have hM := fun η t n => cM_ren η b t n
  have hB := fun η => u8_ren η b
  have hz := fun η => z64_ren η
  refine den_inv (callX_ok tab1_ok) (σ := Nat) (fun t => [(11, .int .i64 (t : Int)), (3, .ptr 2 0), (2, .ptr 1 0), (0, .slc 0 0 1 64 cap)])
    (fun t => [(2, ⟨.own 121, cW b t⟩), (1, ⟨.own 121, z64⟩), (0, ⟨.view, b.map u8⟩)]) (fun _ => 3) (fun t => t ≤ 64) (fun t => 64 - t) 0 ?_ (Nat.zero_le _) ?_
  · exact ⟨[(0, 0), (1, 0), (2, 0)], by simp only [hW, hB, hz, EntM, compat, apartM, keysBelow, frEnt, geto, eta, idHs, rd, SV.ren, SV.renL, Option.getD_some, Option.getD_none, List.getElem?_cons_zero, List.getElem?_cons_succ, List.getElem?_nil, List.length_cons, List.length_nil, Nat.zero_add, Nat.add_zero, Nat.reduceAdd, Nat.reduceSub, Nat.reduceEqDiff, Nat.reduceLT, Nat.reduceLeDiff, ↓reduceIte, Kind.isOwn, List.take_succ_cons, List.take_zero, List.nil_append, List.cons_append, List.append_nil, List.take_nil, and_self, and_true, true_and, exists_eq_left', Option.some.injEq, Blk.mk.injEq, Kind.own.injEq, List.drop_zero, List.take_length, Nat.le_refl, ne_eq, not_false_eq_true, implies_true, List.forall_mem_cons, List.not_mem_nil, false_imp_iff, Bool.or_false, Bool.false_or, Bool.or_self, Bool.true_or, Bool.or_true, forall_const, reduceCtorEq, List.mem_cons, or_false, forall_eq_or_imp, forall_eq, Nat.succ_ne_self, exists_eq_left, Option.some_inj]; trivial, by simp [EntM, compat, apartM, keysBelow, frEnt, geto, eta, idHs, rd, SV.ren, SV.renL, Option.getD_some, Option.getD_none, List.getElem?_cons_zero, List.getElem?_cons_succ, List.getElem?_nil, List.length_cons, List.length_nil, Nat.zero_add, Nat.add_zero, Nat.reduceAdd, Nat.reduceSub, Nat.reduceEqDiff, Nat.reduceLT, Nat.reduceLeDiff, ↓reduceIte, Kind.isOwn, List.take_succ_cons, List.take_zero, List.nil_append, List.cons_append, List.append_nil, List.take_nil, and_self, and_true, true_and, exists_eq_left', Option.some.injEq, Blk.mk.injEq, Kind.own.injEq, List.drop_zero, List.take_length, Nat.le_refl, ne_eq, not_false_eq_true, implies_true, List.forall_mem_cons, List.not_mem_nil, false_imp_iff, Bool.or_false, Bool.false_or, Bool.or_self, Bool.true_or, Bool.or_true, forall_const, reduceCtorEq, List.mem_cons, or_false, forall_eq_or_imp, forall_eq, Nat.succ_ne_self, exists_eq_left, Option.some_inj]⟩
  · intro t ht
    by_cases h64 : t < 64
    · have i1 : (t : Int) < 64 := by omega
      have i0 : (0 : Int) ≤ (t : Int) := by omega
      have wt : IntKind.i64.wrap ((t : Int) + 1) = ((t + 1 : Nat) : Int) := by rw [wrap64 (by omega) (by omega)]; omega
      by_cases h16 : t < 16
      · have i2 : (t : Int) < 16 := by omega
        have w1 : IntKind.i64.wrap (4 * (t : Int)) = ((4 * t : Nat) : Int) := by rw [wrap64 (by omega) (by omega)]; omega
        have w2 : IntKind.i64.wrap (((4 * t : Nat) : Int) + 4) = ((4 * t + 4 : Nat) : Int) := by rw [wrap64 (by omega) (by omega)]; omega
        have k0 : 4 * t + 4 ≤ 64 := by omega
        have hlen : (b.map u8).length = 64 := by simp [hb]
        have v1 : (0 : Int) ≤ ((4 * t : Nat) : Int) := by omega
        have v2 : ((4 * t : Nat) : Int) ≤ ((4 * t + 4 : Nat) : Int) := by omega
        have v3 : ((4 * t + 4 : Nat) : Int) ≤ 64 := by omega
        have v4 : 4 * t + 4 - 4 * t = 4 := by omega
        simp (config := { maxSteps := 1000000 }) only [tab1, i1, i2, w1, w2, v1, v2, v3, v4, hlen, Int.toNat_natCast, Nat.mul_one, SV.flatL, SV.flat, Bool.and_true, Bool.and_self, Bool.true_and, beq_self_eq_true, Int.reduceGE, Int.reduceGT, ↓u_callAnd, Blk.mk.injEq, List.cons.injEq, SV.int.injEq, SV.bool.injEq, SV.tup.injEq, SV.agg.injEq, and_self, undef, Int.reduceBNe, Int.reduceBEq, Nat.reduceBNe, Nat.reduceBEq, ↓u_callX, lookF, setv, finO_r, finO_n, finO_x, again_n, again_x, again_r, lookT, eqPat, eqTag, reduceCtorEq, Nat.reduceEqDiff, Nat.reduceAdd, Nat.reduceSub, Nat.reduceMul, Nat.reduceDiv, Nat.reduceLeDiff, Nat.reduceLT, Int.reduceToNat, Int.reduceLT, Int.reduceLE, Int.reduceAdd, Int.reduceSub, Int.reduceMul, Int.reduceNeg, Int.reduceEq, Int.reduceNe, wrap64, false_imp_iff, true_imp_iff, eq_self, decide_true, decide_false, Int.cast_ofNat_Int,  true_and, and_true, false_and, and_false, imp_self, implies_true, List.getElem?_cons_zero, List.getElem?_cons_succ, List.length_cons, List.length_nil, List.append_nil, List.nil_append, List.cons_append, List.take_succ_cons, List.take_zero, List.drop_succ_cons, List.drop_zero, List.take_nil, List.drop_nil, List.reverse_cons, List.reverse_nil, List.map_cons, List.map_nil, Nat.zero_add, Nat.add_zero, frOf, den_nil, den_o0, ↓gd_tt, ↓gd_ff, ↓gd_tf, ↓gd_ft, gd_any, den_o1, kont_app, den_g, setv, Bool.not_true, Bool.not_false, den_skip, den_reg, den_regD, den_regP, den_A, den_regW, den_W, den_bad, evW, baseD, stBlk, touch, clear, untouched, updsW, List.all_cons, List.all_nil, List.contains_cons, List.contains_nil, Bool.not_true, Bool.not_false, Bool.or_false, Bool.or_self, Bool.false_or, Bool.true_or, Bool.or_true, den_seq, den_cond, den_block, den_exit, den_ret, den_b, den_xb, den_xo, den_xc, den_xu, den_rb, den_ro, den_rc, den_ru, den_u, den_loopU, finP_r, finP_n, finP_x, finE_r, finE_n, finE_x, ↓reduceIte, ↓e_box, ↓e_build, ↓e_bslice, ↓e_load, ↓e_store, ↓e_idxS, ↓e_idxV, ↓e_idxT, ↓e_fieldV, ↓e_eqv, ↓e_isNil, ↓e_b2s, ↓e_slcS, ↓e_arrAt, ↓e_ext, ↓e_app, ↓e_copy, ↓e_mv, ↓e_pick, ↓e_new, ↓e_nilc, ↓e_fld, ↓e_idxA, ↓e_bin, ↓e_eqb, ↓e_un, ↓e_conv, ↓e_strS, ↓e_s2b, ↓e_mkfn, ↓e_mksl, ↓e_slcA, ↓e_slcT, ↓e_call, ↓e_callp, ↓e_callv, ↓e_len, ↓e_lenA, ↓e_mx, ↓e_mn, ↓e_mkmap, ↓e_mput, ↓e_mlen, ↓e_mk8, ↓e_capN, ↓e_appZ, ↓u_onInt, ↓u_onBool, ↓u_onOpt0, ↓u_onOpt1, ↓u_binV, ↓u_srcOf, ↓u_srcSl, ↓binI, ↓binS, ↓fillE, ↓evRes, evA, Opd.ev, Sx.get, put, putO, del, dels, frD, memD, pickD, kills, views, newer, rd, rm, upd, splice, keysOf, kvOf, SV.cells?, SV.one, retOf]
        refine ⟨by cases cap with
          | none => trivial
          | some c => exact hcap c rfl, ?_⟩
        rw [den_loop]
        refine den_unroll (callX_ok tab1_ok) (callT_point _ _) 5 ?_
        have hj : ∀ j, 4 * t + j < 64 → (b.map u8)[4 * t + j]? = some (u8 (b.getD (4 * t + j) 0)) := by
          intro j hj
          simp [List.getD_eq_getElem?_getD, show 4 * t + j < b.length by omega]
        have h0 := hj 0 (by omega)
        rw [Nat.add_zero] at h0
        have h1 := hj 1 (by omega)
        have h2 := hj 2 (by omega)
        have h3 := hj 3 (by omega)
        have lt1 : ∀ j, j < 4 → 4 * t + j < 64 := by omega
        simp (config := { maxSteps := 1000000 }) only [tab1, h0, h1, h2, h3, hlen, i1, i2, i0, cW_len ht, cM_len h64, cW_new h64, cW_put h64, cM_get, cM_put, Int.toNat_natCast, Nat.mul_one, wt, u8, u32, SV.flatL, SV.flat, Bool.and_true, Bool.and_self, Bool.true_and, beq_self_eq_true, Int.reduceGE, Int.reduceGT, ↓u_callAnd, Blk.mk.injEq, List.cons.injEq, SV.int.injEq, SV.bool.injEq, SV.tup.injEq, SV.agg.injEq, and_self, undef, Int.reduceBNe, Int.reduceBEq, Nat.reduceBNe, Nat.reduceBEq, ↓u_callX, lookF, setv, finO_r, finO_n, finO_x, again_n, again_x, again_r, lookT, eqPat, eqTag, reduceCtorEq, Nat.reduceEqDiff, Nat.reduceAdd, Nat.reduceSub, Nat.reduceMul, Nat.reduceDiv, Nat.reduceLeDiff, Nat.reduceLT, Int.reduceToNat, Int.reduceLT, Int.reduceLE, Int.reduceAdd, Int.reduceSub, Int.reduceMul, Int.reduceNeg, Int.reduceEq, Int.reduceNe, wrap64, false_imp_iff, true_imp_iff, eq_self, decide_true, decide_false, Int.cast_ofNat_Int,  true_and, and_true, false_and, and_false, imp_self, implies_true, List.getElem?_cons_zero, List.getElem?_cons_succ, List.length_cons, List.length_nil, List.append_nil, List.nil_append, List.cons_append, List.take_succ_cons, List.take_zero, List.drop_succ_cons, List.drop_zero, List.take_nil, List.drop_nil, List.reverse_cons, List.reverse_nil, List.map_cons, List.map_nil, Nat.zero_add, Nat.add_zero, frOf, den_nil, den_o0, ↓gd_tt, ↓gd_ff, ↓gd_tf, ↓gd_ft, gd_any, den_o1, kont_app, den_g, setv, Bool.not_true, Bool.not_false, den_skip, den_reg, den_regD, den_regP, den_A, den_regW, den_W, den_bad, evW, baseD, stBlk, touch, clear, untouched, updsW, List.all_cons, List.all_nil, List.contains_cons, List.contains_nil, Bool.not_true, Bool.not_false, Bool.or_false, Bool.or_self, Bool.false_or, Bool.true_or, Bool.or_true, den_seq, den_cond, den_block, den_exit, den_ret, den_b, den_xb, den_xo, den_xc, den_xu, den_rb, den_ro, den_rc, den_ru, den_u, den_loopU, finP_r, finP_n, finP_x, finE_r, finE_n, finE_x, ↓reduceIte, ↓e_box, ↓e_build, ↓e_bslice, ↓e_load, ↓e_store, ↓e_idxS, ↓e_idxV, ↓e_idxT, ↓e_fieldV, ↓e_eqv, ↓e_isNil, ↓e_b2s, ↓e_slcS, ↓e_arrAt, ↓e_ext, ↓e_app, ↓e_copy, ↓e_mv, ↓e_pick, ↓e_new, ↓e_nilc, ↓e_fld, ↓e_idxA, ↓e_bin, ↓e_eqb, ↓e_un, ↓e_conv, ↓e_strS, ↓e_s2b, ↓e_mkfn, ↓e_mksl, ↓e_slcA, ↓e_slcT, ↓e_call, ↓e_callp, ↓e_callv, ↓e_len, ↓e_lenA, ↓e_mx, ↓e_mn, ↓e_mkmap, ↓e_mput, ↓e_mlen, ↓e_mk8, ↓e_capN, ↓e_appZ, ↓u_onInt, ↓u_onBool, ↓u_onOpt0, ↓u_onOpt1, ↓u_binV, ↓u_srcOf, ↓u_srcSl, ↓binI, ↓binS, ↓fillE, ↓evRes, evA, Opd.ev, Sx.get, put, putO, del, dels, frD, memD, pickD, kills, views, newer, rd, rm, upd, keysOf, kvOf, SV.cells?, SV.one, retOf]
        refine ⟨by omega, by omega, by omega, by omega, by omega, by omega, by omega, by omega, t + 1, ⟨[(0, 0), (1, 0), (2, 0)], ?_, by simp [EntM, compat, apartM, keysBelow, frEnt, geto, eta, idHs, rd, SV.ren, SV.renL, Option.getD_some, Option.getD_none, List.getElem?_cons_zero, List.getElem?_cons_succ, List.getElem?_nil, List.length_cons, List.length_nil, Nat.zero_add, Nat.add_zero, Nat.reduceAdd, Nat.reduceSub, Nat.reduceEqDiff, Nat.reduceLT, Nat.reduceLeDiff, ↓reduceIte, Kind.isOwn, List.take_succ_cons, List.take_zero, List.nil_append, List.cons_append, List.append_nil, List.take_nil, and_self, and_true, true_and, exists_eq_left', Option.some.injEq, Blk.mk.injEq, Kind.own.injEq, List.drop_zero, List.take_length, Nat.le_refl, ne_eq, not_false_eq_true, implies_true, List.forall_mem_cons, List.not_mem_nil, false_imp_iff, Bool.or_false, Bool.false_or, Bool.or_self, Bool.true_or, Bool.or_true, forall_const, reduceCtorEq, List.mem_cons, or_false, forall_eq_or_imp, forall_eq, Nat.succ_ne_self, exists_eq_left, Option.some_inj]⟩, by omega, by omega⟩
        rw [← cM_step (b := b) (t := t), show nxt b (schI b t) t = be4 b t from if_pos h16]
        unfold be4 pushB
        simp only [hM, hB, hz, EntM, compat, apartM, keysBelow, frEnt, geto, eta, idHs, rd, SV.ren, SV.renL, Option.getD_some, Option.getD_none, List.getElem?_cons_zero, List.getElem?_cons_succ, List.getElem?_nil, List.length_cons, List.length_nil, Nat.zero_add, Nat.add_zero, Nat.reduceAdd, Nat.reduceSub, Nat.reduceEqDiff, Nat.reduceLT, Nat.reduceLeDiff, ↓reduceIte, Kind.isOwn, List.take_succ_cons, List.take_zero, List.nil_append, List.cons_append, List.append_nil, List.take_nil, and_self, and_true, true_and, exists_eq_left', Option.some.injEq, Blk.mk.injEq, Kind.own.injEq, List.drop_zero, List.take_length, Nat.le_refl, ne_eq, not_false_eq_true, implies_true, List.forall_mem_cons, List.not_mem_nil, false_imp_iff, Bool.or_false, Bool.false_or, Bool.or_self, Bool.true_or, Bool.or_true, forall_const, reduceCtorEq, List.mem_cons, or_false, forall_eq_or_imp, forall_eq, Nat.succ_ne_self, exists_eq_left, Option.some_inj]
      · have i2 : ¬ (t : Int) < 16 := by omega
        have a1 : IntKind.i64.wrap ((t : Int) - 15) = ((t - 15 : Nat) : Int) := by rw [wrap64 (by omega) (by omega)]; omega
        have a2 : IntKind.i64.wrap ((t : Int) - 2) = ((t - 2 : Nat) : Int) := by rw [wrap64 (by omega) (by omega)]; omega
        have a3 : IntKind.i64.wrap ((t : Int) - 16) = ((t - 16 : Nat) : Int) := by rw [wrap64 (by omega) (by omega)]; omega
        have a4 : IntKind.i64.wrap ((t : Int) - 7) = ((t - 7 : Nat) : Int) := by rw [wrap64 (by omega) (by omega)]; omega
        have b1 : (0 : Int) ≤ ((t - 15 : Nat) : Int) ∧ ((t - 15 : Nat) : Int) < 64 := by omega
        have b2 : (0 : Int) ≤ ((t - 2 : Nat) : Int) ∧ ((t - 2 : Nat) : Int) < 64 := by omega
        have b3 : (0 : Int) ≤ ((t - 16 : Nat) : Int) ∧ ((t - 16 : Nat) : Int) < 64 := by omega
        have b4 : (0 : Int) ≤ ((t - 7 : Nat) : Int) ∧ ((t - 7 : Nat) : Int) < 64 := by omega
        have c1 : (cW b t)[t - 15]? = _ := cW_get (by omega)
        have c2 : (cW b t)[t - 2]? = _ := cW_get (by omega)
        have c3 : (cW b t)[t - 16]? = _ := cW_get (by omega)
        have c4 : (cW b t)[t - 7]? = _ := cW_get (by omega)
        have g7 : ∀ n, gRot [.int .u32 n, .int .i64 (-7)] = some (.int .u32 (rotI n 7)) := fun n => g104 (r := 7) (by decide) (by decide)
        have g18 : ∀ n, gRot [.int .u32 n, .int .i64 (-18)] = some (.int .u32 (rotI n 18)) := fun n => g104 (r := 18) (by decide) (by decide)
        have g17 : ∀ n, gRot [.int .u32 n, .int .i64 (-17)] = some (.int .u32 (rotI n 17)) := fun n => g104 (r := 17) (by decide) (by decide)
        have g19 : ∀ n, gRot [.int .u32 n, .int .i64 (-19)] = some (.int .u32 (rotI n 19)) := fun n => g104 (r := 19) (by decide) (by decide)
        simp (config := { maxSteps := 1000000 }) only [tab1, i1, i2, i0, a1, a2, a3, a4, b1.1, b2.1, b3.1, b4.1, b1.2, b2.2, b3.2, b4.2, c1, c2, c3, c4, ↓g7, ↓g18, ↓g17, ↓g19, cW_len ht, cW_put h64, Int.toNat_natCast, Nat.mul_one, wt, u8, u32, SV.flatL, SV.flat, Bool.and_true, Bool.and_self, Bool.true_and, beq_self_eq_true, Int.reduceGE, Int.reduceGT, ↓u_callAnd, Blk.mk.injEq, List.cons.injEq, SV.int.injEq, SV.bool.injEq, SV.tup.injEq, SV.agg.injEq, and_self, undef, Int.reduceBNe, Int.reduceBEq, Nat.reduceBNe, Nat.reduceBEq, ↓u_callX, lookF, setv, finO_r, finO_n, finO_x, again_n, again_x, again_r, lookT, eqPat, eqTag, reduceCtorEq, Nat.reduceEqDiff, Nat.reduceAdd, Nat.reduceSub, Nat.reduceMul, Nat.reduceDiv, Nat.reduceLeDiff, Nat.reduceLT, Int.reduceToNat, Int.reduceLT, Int.reduceLE, Int.reduceAdd, Int.reduceSub, Int.reduceMul, Int.reduceNeg, Int.reduceEq, Int.reduceNe, wrap64, false_imp_iff, true_imp_iff, eq_self, decide_true, decide_false, Int.cast_ofNat_Int,  true_and, and_true, false_and, and_false, imp_self, implies_true, List.getElem?_cons_zero, List.getElem?_cons_succ, List.length_cons, List.length_nil, List.append_nil, List.nil_append, List.cons_append, List.take_succ_cons, List.take_zero, List.drop_succ_cons, List.drop_zero, List.take_nil, List.drop_nil, List.reverse_cons, List.reverse_nil, List.map_cons, List.map_nil, Nat.zero_add, Nat.add_zero, frOf, den_nil, den_o0, ↓gd_tt, ↓gd_ff, ↓gd_tf, ↓gd_ft, gd_any, den_o1, kont_app, den_g, setv, Bool.not_true, Bool.not_false, den_skip, den_reg, den_regD, den_regP, den_A, den_regW, den_W, den_bad, evW, baseD, stBlk, touch, clear, untouched, updsW, List.all_cons, List.all_nil, List.contains_cons, List.contains_nil, Bool.not_true, Bool.not_false, Bool.or_false, Bool.or_self, Bool.false_or, Bool.true_or, Bool.or_true, den_seq, den_cond, den_block, den_exit, den_ret, den_b, den_xb, den_xo, den_xc, den_xu, den_rb, den_ro, den_rc, den_ru, den_u, den_loopU, finP_r, finP_n, finP_x, finE_r, finE_n, finE_x, ↓reduceIte, ↓e_box, ↓e_build, ↓e_bslice, ↓e_load, ↓e_store, ↓e_idxS, ↓e_idxV, ↓e_idxT, ↓e_fieldV, ↓e_eqv, ↓e_isNil, ↓e_b2s, ↓e_slcS, ↓e_arrAt, ↓e_ext, ↓e_app, ↓e_copy, ↓e_mv, ↓e_pick, ↓e_new, ↓e_nilc, ↓e_fld, ↓e_idxA, ↓e_bin, ↓e_eqb, ↓e_un, ↓e_conv, ↓e_strS, ↓e_s2b, ↓e_mkfn, ↓e_mksl, ↓e_slcA, ↓e_slcT, ↓e_call, ↓e_callp, ↓e_callv, ↓e_len, ↓e_lenA, ↓e_mx, ↓e_mn, ↓e_mkmap, ↓e_mput, ↓e_mlen, ↓e_mk8, ↓e_capN, ↓e_appZ, ↓u_onInt, ↓u_onBool, ↓u_onOpt0, ↓u_onOpt1, ↓u_binV, ↓u_srcOf, ↓u_srcSl, ↓binI, ↓binS, ↓fillE, ↓evRes, evA, Opd.ev, Sx.get, put, putO, del, dels, frD, memD, pickD, kills, views, newer, rd, rm, upd, keysOf, kvOf, SV.cells?, SV.one, retOf]
        refine ⟨by omega, t + 1, ⟨[(0, 0), (1, 0), (2, 0)], ?_, by simp [EntM, compat, apartM, keysBelow, frEnt, geto, eta, idHs, rd, SV.ren, SV.renL, Option.getD_some, Option.getD_none, List.getElem?_cons_zero, List.getElem?_cons_succ, List.getElem?_nil, List.length_cons, List.length_nil, Nat.zero_add, Nat.add_zero, Nat.reduceAdd, Nat.reduceSub, Nat.reduceEqDiff, Nat.reduceLT, Nat.reduceLeDiff, ↓reduceIte, Kind.isOwn, List.take_succ_cons, List.take_zero, List.nil_append, List.cons_append, List.append_nil, List.take_nil, and_self, and_true, true_and, exists_eq_left', Option.some.injEq, Blk.mk.injEq, Kind.own.injEq, List.drop_zero, List.take_length, Nat.le_refl, ne_eq, not_false_eq_true, implies_true, List.forall_mem_cons, List.not_mem_nil, false_imp_iff, Bool.or_false, Bool.false_or, Bool.or_self, Bool.true_or, Bool.or_true, forall_const, reduceCtorEq, List.mem_cons, or_false, forall_eq_or_imp, forall_eq, Nat.succ_ne_self, exists_eq_left, Option.some_inj]⟩, by omega, by omega⟩
        rw [← cM_step (b := b) (t := t), show nxt b (schI b t) t = _ from if_neg h16]
        unfold addI sig0 sig1 shrI
        simp only [hM, hB, hz, EntM, compat, apartM, keysBelow, frEnt, geto, eta, idHs, rd, SV.ren, SV.renL, Option.getD_some, Option.getD_none, List.getElem?_cons_zero, List.getElem?_cons_succ, List.getElem?_nil, List.length_cons, List.length_nil, Nat.zero_add, Nat.add_zero, Nat.reduceAdd, Nat.reduceSub, Nat.reduceEqDiff, Nat.reduceLT, Nat.reduceLeDiff, ↓reduceIte, Kind.isOwn, List.take_succ_cons, List.take_zero, List.nil_append, List.cons_append, List.append_nil, List.take_nil, and_self, and_true, true_and, exists_eq_left', Option.some.injEq, Blk.mk.injEq, Kind.own.injEq, List.drop_zero, List.take_length, Nat.le_refl, ne_eq, not_false_eq_true, implies_true, List.forall_mem_cons, List.not_mem_nil, false_imp_iff, Bool.or_false, Bool.false_or, Bool.or_self, Bool.true_or, Bool.or_true, forall_const, reduceCtorEq, List.mem_cons, or_false, forall_eq_or_imp, forall_eq, Nat.succ_ne_self, exists_eq_left, Option.some_inj]
    · obtain rfl : t = 64 := by omega
      simp (config := { maxSteps := 1000000 }) only [tab1, Int.cast_ofNat_Int, SV.flatL, SV.flat, Bool.and_true, Bool.and_self, Bool.true_and, beq_self_eq_true, Int.reduceGE, Int.reduceGT, ↓u_callAnd, Blk.mk.injEq, List.cons.injEq, SV.int.injEq, SV.bool.injEq, SV.tup.injEq, SV.agg.injEq, and_self, undef, Int.reduceBNe, Int.reduceBEq, Nat.reduceBNe, Nat.reduceBEq, ↓u_callX, lookF, setv, finO_r, finO_n, finO_x, again_n, again_x, again_r, lookT, eqPat, eqTag, reduceCtorEq, Nat.reduceEqDiff, Nat.reduceAdd, Nat.reduceSub, Nat.reduceMul, Nat.reduceDiv, Nat.reduceLeDiff, Nat.reduceLT, Int.reduceToNat, Int.reduceLT, Int.reduceLE, Int.reduceAdd, Int.reduceSub, Int.reduceMul, Int.reduceNeg, Int.reduceEq, Int.reduceNe, wrap64, false_imp_iff, true_imp_iff, eq_self, decide_true, decide_false, Int.cast_ofNat_Int,  true_and, and_true, false_and, and_false, imp_self, implies_true, List.getElem?_cons_zero, List.getElem?_cons_succ, List.length_cons, List.length_nil, List.append_nil, List.nil_append, List.cons_append, List.take_succ_cons, List.take_zero, List.drop_succ_cons, List.drop_zero, List.take_nil, List.drop_nil, List.reverse_cons, List.reverse_nil, List.map_cons, List.map_nil, Nat.zero_add, Nat.add_zero, frOf, den_nil, den_o0, ↓gd_tt, ↓gd_ff, ↓gd_tf, ↓gd_ft, gd_any, den_o1, kont_app, den_g, setv, Bool.not_true, Bool.not_false, den_skip, den_reg, den_regD, den_regP, den_A, den_regW, den_W, den_bad, evW, baseD, stBlk, touch, clear, untouched, updsW, List.all_cons, List.all_nil, List.contains_cons, List.contains_nil, Bool.not_true, Bool.not_false, Bool.or_false, Bool.or_self, Bool.false_or, Bool.true_or, Bool.or_true, den_seq, den_cond, den_block, den_exit, den_ret, den_b, den_xb, den_xo, den_xc, den_xu, den_rb, den_ro, den_rc, den_ru, den_u, den_loopU, finP_r, finP_n, finP_x, finE_r, finE_n, finE_x, ↓reduceIte, ↓e_box, ↓e_build, ↓e_bslice, ↓e_load, ↓e_store, ↓e_idxS, ↓e_idxV, ↓e_idxT, ↓e_fieldV, ↓e_eqv, ↓e_isNil, ↓e_b2s, ↓e_slcS, ↓e_arrAt, ↓e_ext, ↓e_app, ↓e_copy, ↓e_mv, ↓e_pick, ↓e_new, ↓e_nilc, ↓e_fld, ↓e_idxA, ↓e_bin, ↓e_eqb, ↓e_un, ↓e_conv, ↓e_strS, ↓e_s2b, ↓e_mkfn, ↓e_mksl, ↓e_slcA, ↓e_slcT, ↓e_call, ↓e_callp, ↓e_callv, ↓e_len, ↓e_lenA, ↓e_mx, ↓e_mn, ↓e_mkmap, ↓e_mput, ↓e_mlen, ↓e_mk8, ↓e_capN, ↓e_appZ, ↓u_onInt, ↓u_onBool, ↓u_onOpt0, ↓u_onOpt1, ↓u_binV, ↓u_srcOf, ↓u_srcSl, ↓binI, ↓binS, ↓fillE, ↓evRes, evA, Opd.ev, Sx.get, put, putO, del, dels, frD, memD, pickD, kills, views, newer, rd, rm, upd, splice, keysOf, kvOf, SV.cells?, SV.one, retOf]
      have hl := cW_len (b := b) (Nat.le_refl 64)
      have hz : z64.length = 64 := by simp [z64]
      have hd : List.drop 64 z64 = [] := List.drop_of_length_le (by omega)
      rw [List.take_of_length_le (by omega : (cW b 64).length ≤ 64), hl, hd, List.append_nil, hl, hz, List.take_of_length_le (by omega : (cW b 64).length ≤ 64), cW_all]
      exact ⟨Nat.le_refl _, rfl, Nat.le_refl _, Nat.le_refl _, rfl⟩
end Go.Proofs.YtkfbkooobfepeaaDoor

/- SHA-256 of package hash: a block. -/
namespace Go.Proofs.YtkfbkooobfepeaaDoor
open Go Go.Sx Sf
set_option maxRecDepth 100000
set_option linter.unusedSimpArgs false
set_option linter.unusedVariables false

variable {tS : List (Nat × List SV)}
/-- the numbers of bytes -/
def unI8 : List SV → Option (List Int)
  | [] => some []
  | .int .u8 n :: l => match unI8 l with
    | some r => some (n :: r)
    | none => none
  | _ => none
theorem unI8_map : ∀ b : List Int, unI8 (b.map u8) = some b
  | [] => rfl
  | n :: b => by simp only [List.map_cons, u8, unI8]; rw [show List.map u8 b = b.map u8 from rfl, unI8_map b]
theorem unI8_some : ∀ {l : List SV} {b : List Int}, unI8 l = some b → l = b.map u8
  | [], b, h => by simp only [unI8] at h; cases h; rfl
  | x :: l, b, h => by
    unfold unI8 at h
    split at h
    · rename_i he; cases he
    · rename_i n l' he
      cases he
      split at h
      · rename_i r hr; cases h; rw [unI8_some hr]; rfl
      · cases h
    · cases h
def gSch : GS
  | [.slc 0 0 1 64 cap], [(0, ⟨.view, cells⟩)] => match unI8 cells with
    | some b => match Nat.beq b.length 64, capB cap 64 with
      | true, true => some (.agg ((schI b 64).map u32), [], 1)
      | _, _ => none
    | none => none
  | _, _ => none
theorem gSch_ok : FunS Tryd.prog tS 86 gSch := by
  intro a0 m0 r m1 n1 h
  unfold gSch at h
  split at h
  · rename_i cap cells
    split at h
    · rename_i b hb
      split at h
      · rename_i h1 h2
        cases h
        rw [unI8_some hb]
        exact ⟨f86 b (Nat.eq_of_beq_eq_true h1) cap (capB_ok h2), by simp [freshB]⟩
      · cases h
    · cases h
  · cases h
end Go.Proofs.YtkfbkooobfepeaaDoor

/- SHA-256 of package hash: the compression of a block. -/
namespace Go.Proofs.YtkfbkooobfepeaaDoor
open Go Go.Sx Sf
set_option maxRecDepth 100000
set_option linter.unusedSimpArgs false
set_option linter.unusedVariables false

variable {tS : List (Nat × List SV)}
def andI (a b : Int) : Int := bitop .and .u32 a b
def xorI (a b : Int) : Int := bitop .xor .u32 a b
def notI (a : Int) : Int := bitop .xor .u32 (if IntKind.u32.signed then -1 else IntKind.u32.max) a
structure V8 where
  a : Int
  b : Int
  c : Int
  d : Int
  e : Int
  f : Int
  g : Int
  h : Int
/-- one round, with the word and the constant -/
def V8.round (s : V8) (w k : Int) : V8 :=
  let x := addI (addI (addI (addI s.h (mixI s.e 6 11 25)) (xorI (andI s.e s.f) (andI (notI s.e) s.g))) k) w
  let y := addI (mixI s.a 2 13 22) (xorI (xorI (andI s.a s.b) (andI s.a s.c)) (andI s.b s.c))
  ⟨addI x y, s.a, s.b, s.c, addI s.d x, s.e, s.f, s.g⟩
def V8.rounds (w : List Int) (s : V8) : Nat → V8
  | 0 => s
  | t + 1 => (V8.rounds w s t).round (w.getD t 0) (kc.getD t 0)
def V8.l (s : V8) : List Int := [s.a, s.b, s.c, s.d, s.e, s.f, s.g, s.h]
def V8.add (s v : V8) : V8 := ⟨addI s.a v.a, addI s.b v.b, addI s.c v.c, addI s.d v.d, addI s.e v.e, addI s.f v.f, addI s.g v.g, addI s.h v.h⟩
/-- the compression of a block -/
def comp (s : V8) (b : List Int) : V8 := s.add (V8.rounds (schI b 64) s 64)
def gMix : List SV → Option SV
  | [.int .u32 n, .int .i64 (.ofNat i), .int .i64 (.ofNat j), .int .i64 (.ofNat k)] => if (1 ≤ i ∧ i ≤ 31) ∧ (1 ≤ j ∧ j ≤ 31) ∧ (1 ≤ k ∧ k ≤ 31) then some (.int .u32 (mixI n i j k)) else none
  | _ => none
def tab2 : Tab := ⟨[(104, gRot), (87, gMix)], []⟩
theorem tab2_ok : TabX Tryd.prog tS tab2 := by
  refine ⟨fun x h args r hr => ?_, fun x h => by simp [tab2] at h⟩
  simp only [tab2, List.mem_cons, List.not_mem_nil, or_false] at h
  rcases h with rfl | rfl
  · exact tab1_ok.p _ (by simp [tab1]) args r hr
  · simp only at hr
    unfold gMix at hr
    split at hr
    · split at hr
      · rename_i hc
        cases hr
        exact ⟨f87 _ _ _ _ hc.1 hc.2.1 hc.2.2, fun η => by simp only [SV.renL, SV.ren], fun η => by simp only [SV.renL, SV.ren]⟩
      · cases hr
    · cases hr
def callH : CallT := callS [(86, gSch)] (callX tab2)
theorem callH_ok : ∀ f a m n K, callH f a m n K → callT Tryd.prog tS f a m n K :=
  callS_ok (fun x h => by simp only [List.mem_singleton] at h; subst h; exact gSch_ok) (callX_ok tab2_ok)
end Go.Proofs.YtkfbkooobfepeaaDoor

/- SHA-256 of package hash: compress. -/
namespace Go.Proofs.YtkfbkooobfepeaaDoor
open Go Go.Sx Sf
set_option maxRecDepth 100000
set_option linter.unusedSimpArgs false
set_option linter.unusedVariables false

theorem unI8_len {b : List Int} (hb : b.length = 64) : Nat.beq b.length 64 = true := by rw [hb]; rfl
theorem flat_u8 : ∀ b : List Int, SV.flatL (b.map u8) = true
  | [] => rfl
  | n :: b => by simp only [List.map_cons, SV.flatL, u8, SV.flat, Bool.true_and]; exact flat_u8 b
def z8 : List SV := [.int .u32 0, .int .u32 0, .int .u32 0, .int .u32 0, .int .u32 0, .int .u32 0, .int .u32 0, .int .u32 0]
theorem ren_w (η : Nat → Nat × Nat) (l : List Int) : SV.renL η (l.map u32) = l.map u32 := by
  simp only [SV.renL_eq, List.map_map]
  congr 1
theorem look0 : lookT tH 0 = some (kc.map u32) := (rfl)
theorem kc_len : (kc.map u32).length = 64 := (rfl)
theorem kc_take : List.take 64 (kc.map u32) = kc.map u32 := (rfl)
set_option maxHeartbeats 4000000 in
theorem f73 (s : V8) (b : List Int) (hb : b.length = 64) (cap : Option Nat) (hcap : CapOk cap 64) :
    Fun Tryd.prog tH 73 [.agg (s.l.map u32), .slc 0 0 1 64 cap] [(0, ⟨.view, b.map u8⟩)] 1 (.agg ((comp s b).l.map u32)) [] 1 := by
  refine fun_val none callH callH_ok chk73 (show 2 ≤ 116 by decide) (fun η => ren_u32 η _) ?_
  unfold sf73
  obtain ⟨a0, a1, a2, a3, a4, a5, a6, a7⟩ := s
  have hlen : (b.map u8).length = 64 := by simp [hb]
  have hfl := flat_u8 b
  have htk : List.take 64 (b.map u8) = b.map u8 := List.take_of_length_le (by omega)
  have hl64 := unI8_len hb
  have hcb : capB cap 64 = true := by
    cases cap with
    | none => rfl
    | some c => exact Nat.ble_eq_true_of_le (hcap c rfl)
  have hw := fun η l => ren_w η l
  have hsl : (List.map u32 (schI b 64)).length = 64 := by simp [schI_len]
  have hst : List.take 64 (List.map u32 (schI b 64)) = List.map u32 (schI b 64) := List.take_of_length_le (by omega)
  have rW : ∀ η, SV.renL η (List.map u32 (schI b 64)) = List.map u32 (schI b 64) := fun η => ren_w η _
  have rK : ∀ η, SV.renL η (List.map u32 kc) = List.map u32 kc := fun η => ren_w η _
  have rB : ∀ η, SV.renL η (List.map u8 b) = List.map u8 b := fun η => u8_ren η b
  have ru : ∀ η n, (u32 n).ren η = u32 n := fun _ _ => rfl
  have d64 : List.drop 64 (List.replicate 64 (SV.int .u32 0)) = [] := rfl
  generalize hRe : (fun t => V8.rounds (schI b 64) ⟨a0, a1, a2, a3, a4, a5, a6, a7⟩ t) = R
  have hR0 : R 0 = ⟨a0, a1, a2, a3, a4, a5, a6, a7⟩ := by rw [← hRe]; rfl
  generalize hW : List.map u32 (schI b 64) = W at *
  simp (config := { maxSteps := 1000000 }) only [callH, tab2, gSch, unI8_map, hlen, hfl, htk, hl64, hcb, V8.l, hW, hsl, hst, look0, kc_len, kc_take, SV.flatL, SV.flat, Bool.and_true, Bool.and_self, Bool.true_and, beq_self_eq_true, Int.reduceGE, Int.reduceGT, ↓u_callAnd, Blk.mk.injEq, List.cons.injEq, SV.int.injEq, SV.bool.injEq, SV.tup.injEq, SV.agg.injEq, and_self, undef, Int.reduceBNe, Int.reduceBEq, Nat.reduceBNe, Nat.reduceBEq, ↓u_callX, lookF, setv, finO_r, finO_n, finO_x, again_n, again_x, again_r, lookT, eqPat, eqTag, reduceCtorEq, Nat.reduceEqDiff, Nat.reduceAdd, Nat.reduceSub, Nat.reduceMul, Nat.reduceDiv, Nat.reduceLeDiff, Nat.reduceLT, Int.reduceToNat, Int.reduceLT, Int.reduceLE, Int.reduceAdd, Int.reduceSub, Int.reduceMul, Int.reduceNeg, Int.reduceEq, Int.reduceNe, wrap64, false_imp_iff, true_imp_iff, eq_self, decide_true, decide_false, Int.cast_ofNat_Int,  true_and, and_true, false_and, and_false, imp_self, implies_true, List.getElem?_cons_zero, List.getElem?_cons_succ, List.length_cons, List.length_nil, List.append_nil, List.nil_append, List.cons_append, List.take_succ_cons, List.take_zero, List.drop_succ_cons, List.drop_zero, List.take_nil, List.drop_nil, List.reverse_cons, List.reverse_nil, List.map_cons, List.map_nil, Nat.zero_add, Nat.add_zero, frOf, den_nil, den_o0, ↓gd_tt, ↓gd_ff, ↓gd_tf, ↓gd_ft, gd_any, den_o1, kont_app, den_g, setv, Bool.not_true, Bool.not_false, den_skip, den_reg, den_regD, den_regP, den_A, den_regW, den_W, den_bad, evW, baseD, stBlk, touch, clear, untouched, updsW, List.all_cons, List.all_nil, List.contains_cons, List.contains_nil, Bool.not_true, Bool.not_false, Bool.or_false, Bool.or_self, Bool.false_or, Bool.true_or, Bool.or_true, den_seq, den_cond, den_block, den_exit, den_ret, den_b, den_xb, den_xo, den_xc, den_xu, den_rb, den_ro, den_rc, den_ru, den_u, den_loopU, finP_r, finP_n, finP_x, finE_r, finE_n, finE_x, ↓reduceIte, ↓e_box, ↓e_build, ↓e_bslice, ↓e_load, ↓e_store, ↓e_idxS, ↓e_idxV, ↓e_idxT, ↓e_fieldV, ↓e_eqv, ↓e_isNil, ↓e_b2s, ↓e_slcS, ↓e_arrAt, ↓e_ext, ↓e_app, ↓e_copy, ↓e_mv, ↓e_pick, ↓e_new, ↓e_nilc, ↓e_fld, ↓e_idxA, ↓e_bin, ↓e_eqb, ↓e_un, ↓e_conv, ↓e_strS, ↓e_s2b, ↓e_mkfn, ↓e_mksl, ↓e_slcA, ↓e_slcT, ↓e_call, ↓e_callp, ↓e_callv, ↓e_len, ↓e_lenA, ↓e_mx, ↓e_mn, ↓e_mkmap, ↓e_mput, ↓e_mlen, ↓e_mk8, ↓e_capN, ↓e_appZ, ↓u_onInt, ↓u_onBool, ↓u_onOpt0, ↓u_onOpt1, ↓u_binV, ↓u_srcOf, ↓u_srcSl, ↓binI, ↓binS, ↓fillE, ↓evRes, evA, Opd.ev, Sx.get, put, putO, del, dels, frD, memD, pickD, kills, views, newer, rd, rm, upd, splice, keysOf, kvOf, SV.cells?, SV.one, retOf, ↓u_callS, canLW, canV, canC, belowL, apH, apH1, eta, SV.ren, SV.renL, newOwn, targets, rms, Kind.isOwn, ren_bytes, byte_ren, ren_ints, flat_ints, len_ints, List.getElem?_nil, Option.getD_none, Option.getD_some, Nat.sub_zero, not_true_eq_false, not_false_eq_true, Nat.le_refl, take_bytes, take_ints, nlS_0, nlS_1, nlM_0, nlM_1, nlN_0, nlN_1, take_bys1, map_byte, len_bytes, flat_bytes, Int.toNat_natCast, Nat.mul_one, Int.cast_ofNat_Int]
  refine ⟨by rw [rW]; exact hsl, ?_⟩
  rw [rW]
  rw [den_loop]
  refine den_inv callH_ok (σ := Nat) (fun t => [(22, .int .i64 (t : Int)), (21, .agg (kc.map u32)), (7, .ptr 5 0), (6, .ptr 4 0), (5, .ptr 3 0), (4, .ptr 2 0), (2, .ptr 1 0)])
    (fun t => [(5, ⟨.own 123, [u32 (R t).e, u32 (R t).f, u32 (R t).g, u32 (R t).h]⟩), (4, ⟨.own 123, [u32 (R t).a, u32 (R t).b, u32 (R t).c, u32 (R t).d]⟩), (3, ⟨.own 121, W⟩),
      (2, ⟨.own 83, z8⟩), (1, ⟨.own 83, [u32 a0, u32 a1, u32 a2, u32 a3, u32 a4, u32 a5, u32 a6, u32 a7]⟩), (0, ⟨.view, b.map u8⟩)]) (fun _ => 6) (fun t => t ≤ 64) (fun t => 64 - t) 0 ?_ (Nat.zero_le _) ?_
  · refine ⟨[(0, 0), (1, 0), (2, 0), (3, 0), (4, 0), (5, 0)], ?_, ?_⟩
    · simp only [rW, rK, ru, rB, hR0, hsl, d64, z8, EntM, compat, apartM, keysBelow, frEnt, geto, eta, idHs, rd, SV.ren, SV.renL, Option.getD_some, Option.getD_none, List.getElem?_cons_zero, List.getElem?_cons_succ, List.getElem?_nil, List.length_cons, List.length_nil, Nat.zero_add, Nat.add_zero, Nat.reduceAdd, Nat.reduceSub, Nat.reduceEqDiff, Nat.reduceLT, Nat.reduceLeDiff, ↓reduceIte, Kind.isOwn, List.take_succ_cons, List.take_zero, List.nil_append, List.cons_append, List.append_nil, List.take_nil, and_self, and_true, true_and, exists_eq_left', Option.some.injEq, Blk.mk.injEq, Kind.own.injEq, List.drop_zero, List.take_length, Nat.le_refl, ne_eq, not_false_eq_true, implies_true, List.forall_mem_cons, List.not_mem_nil, false_imp_iff, Bool.or_false, Bool.false_or, Bool.or_self, Bool.true_or, Bool.or_true, forall_const, reduceCtorEq, List.mem_cons, or_false, forall_eq_or_imp, forall_eq, Nat.succ_ne_self, exists_eq_left, Option.some_inj, byte_ren, one_byte, ren_bytes, len_bytes, take_bytes, take_ints, nlS_0, nlS_1, nlM_0, nlM_1, nlN_0, nlN_1, take_bys1, ren_ints, len_ints]
      refine (congrArg (W ++ ·) (List.drop_of_length_le ?_)).trans (List.append_nil W)
      exact Nat.le_refl 64
    · simp only [rW, rK, ru, rB, hR0, hsl, EntM, compat, apartM, keysBelow, frEnt, geto, eta, idHs, rd, SV.ren, SV.renL, Option.getD_some, Option.getD_none, List.getElem?_cons_zero, List.getElem?_cons_succ, List.getElem?_nil, List.length_cons, List.length_nil, Nat.zero_add, Nat.add_zero, Nat.reduceAdd, Nat.reduceSub, Nat.reduceEqDiff, Nat.reduceLT, Nat.reduceLeDiff, ↓reduceIte, Kind.isOwn, List.take_succ_cons, List.take_zero, List.nil_append, List.cons_append, List.append_nil, List.take_nil, and_self, and_true, true_and, exists_eq_left', Option.some.injEq, Blk.mk.injEq, Kind.own.injEq, List.drop_zero, List.take_length, Nat.le_refl, ne_eq, not_false_eq_true, implies_true, List.forall_mem_cons, List.not_mem_nil, false_imp_iff, Bool.or_false, Bool.false_or, Bool.or_self, Bool.true_or, Bool.or_true, forall_const, reduceCtorEq, List.mem_cons, or_false, forall_eq_or_imp, forall_eq, Nat.succ_ne_self, exists_eq_left, Option.some_inj, byte_ren, one_byte, ren_bytes, len_bytes, take_bytes, take_ints, nlS_0, nlS_1, nlM_0, nlM_1, nlN_0, nlN_1, take_bys1, ren_ints, len_ints]
      rfl
  · intro t ht
    by_cases h64 : t < 64
    · have c1 : (t : Int) < 64 := by omega
      have c2 : (0 : Int) ≤ (t : Int) := by omega
      have wt : IntKind.i64.wrap ((t : Int) + 1) = ((t + 1 : Nat) : Int) := by rw [wrap64_eq (by omega) (by omega)]; omega
      have gk : (List.map u32 kc)[t]? = some (u32 (kc.getD t 0)) := by
        have : kc.length = 64 := rfl
        simp [List.getD_eq_getElem?_getD, show t < kc.length by omega]
      have gw : W[t]? = some (u32 ((schI b 64).getD t 0)) := by
        rw [← hW]
        simp [List.getD_eq_getElem?_getD, schI_len, h64]
      have hR1 : R (t + 1) = (R t).round ((schI b 64).getD t 0) (kc.getD t 0) := by rw [← hRe]; rfl
      generalize hk : kc.getD t 0 = k at *
      generalize hwt : (schI b 64).getD t 0 = w at *
      rcases hRt : R t with ⟨a, bb, c, d, e, f, g, h⟩
      simp only [hRt]
      have m1 : ∀ n, gMix [.int .u32 n, .int .i64 6, .int .i64 11, .int .i64 25] = some (.int .u32 (mixI n 6 11 25)) := fun n => rfl
      have m2 : ∀ n, gMix [.int .u32 n, .int .i64 2, .int .i64 13, .int .i64 22] = some (.int .u32 (mixI n 2 13 22)) := fun n => rfl
      simp (config := { maxSteps := 1000000 }) only [callH, tab2, ↓m1, ↓m2, c1, c2, gk, gw, hsl, wt, u32, SV.flatL, SV.flat, Bool.and_true, Bool.and_self, Bool.true_and, beq_self_eq_true, Int.reduceGE, Int.reduceGT, ↓u_callAnd, Blk.mk.injEq, List.cons.injEq, SV.int.injEq, SV.bool.injEq, SV.tup.injEq, SV.agg.injEq, and_self, undef, Int.reduceBNe, Int.reduceBEq, Nat.reduceBNe, Nat.reduceBEq, ↓u_callX, lookF, setv, finO_r, finO_n, finO_x, again_n, again_x, again_r, lookT, eqPat, eqTag, reduceCtorEq, Nat.reduceEqDiff, Nat.reduceAdd, Nat.reduceSub, Nat.reduceMul, Nat.reduceDiv, Nat.reduceLeDiff, Nat.reduceLT, Int.reduceToNat, Int.reduceLT, Int.reduceLE, Int.reduceAdd, Int.reduceSub, Int.reduceMul, Int.reduceNeg, Int.reduceEq, Int.reduceNe, wrap64, false_imp_iff, true_imp_iff, eq_self, decide_true, decide_false, Int.cast_ofNat_Int,  true_and, and_true, false_and, and_false, imp_self, implies_true, List.getElem?_cons_zero, List.getElem?_cons_succ, List.length_cons, List.length_nil, List.append_nil, List.nil_append, List.cons_append, List.take_succ_cons, List.take_zero, List.drop_succ_cons, List.drop_zero, List.take_nil, List.drop_nil, List.reverse_cons, List.reverse_nil, List.map_cons, List.map_nil, Nat.zero_add, Nat.add_zero, frOf, den_nil, den_o0, ↓gd_tt, ↓gd_ff, ↓gd_tf, ↓gd_ft, gd_any, den_o1, kont_app, den_g, setv, Bool.not_true, Bool.not_false, den_skip, den_reg, den_regD, den_regP, den_A, den_regW, den_W, den_bad, evW, baseD, stBlk, touch, clear, untouched, updsW, List.all_cons, List.all_nil, List.contains_cons, List.contains_nil, Bool.not_true, Bool.not_false, Bool.or_false, Bool.or_self, Bool.false_or, Bool.true_or, Bool.or_true, den_seq, den_cond, den_block, den_exit, den_ret, den_b, den_xb, den_xo, den_xc, den_xu, den_rb, den_ro, den_rc, den_ru, den_u, den_loopU, finP_r, finP_n, finP_x, finE_r, finE_n, finE_x, ↓reduceIte, ↓e_box, ↓e_build, ↓e_bslice, ↓e_load, ↓e_store, ↓e_idxS, ↓e_idxV, ↓e_idxT, ↓e_fieldV, ↓e_eqv, ↓e_isNil, ↓e_b2s, ↓e_slcS, ↓e_arrAt, ↓e_ext, ↓e_app, ↓e_copy, ↓e_mv, ↓e_pick, ↓e_new, ↓e_nilc, ↓e_fld, ↓e_idxA, ↓e_bin, ↓e_eqb, ↓e_un, ↓e_conv, ↓e_strS, ↓e_s2b, ↓e_mkfn, ↓e_mksl, ↓e_slcA, ↓e_slcT, ↓e_call, ↓e_callp, ↓e_callv, ↓e_len, ↓e_lenA, ↓e_mx, ↓e_mn, ↓e_mkmap, ↓e_mput, ↓e_mlen, ↓e_mk8, ↓e_capN, ↓e_appZ, ↓u_onInt, ↓u_onBool, ↓u_onOpt0, ↓u_onOpt1, ↓u_binV, ↓u_srcOf, ↓u_srcSl, ↓binI, ↓binS, ↓fillE, ↓evRes, evA, Opd.ev, Sx.get, put, putO, del, dels, frD, memD, pickD, kills, views, newer, rd, rm, upd, splice, keysOf, kvOf, SV.cells?, SV.one, retOf, ↓u_callS, canLW, canV, canC, belowL, apH, apH1, eta, SV.ren, SV.renL, newOwn, targets, rms, Kind.isOwn, ren_bytes, byte_ren, ren_ints, flat_ints, len_ints, List.getElem?_nil, Option.getD_none, Option.getD_some, Nat.sub_zero, not_true_eq_false, not_false_eq_true, Nat.le_refl, take_bytes, take_ints, nlS_0, nlS_1, nlM_0, nlM_1, nlN_0, nlN_1, take_bys1, map_byte, len_bytes, flat_bytes, Int.toNat_natCast, Nat.mul_one, Int.cast_ofNat_Int]
      rw [hRt] at hR1
      refine ⟨t + 1, ⟨[(0, 0), (1, 0), (2, 0), (3, 0), (4, 0), (5, 0)], ?_, ?_⟩, by omega, by omega⟩
      · simp only [hR1, V8.round, addI, xorI, andI, notI, u32, rW, rB, z8, EntM, compat, apartM, keysBelow, frEnt, geto, eta, idHs, rd, SV.ren, SV.renL, Option.getD_some, Option.getD_none, List.getElem?_cons_zero, List.getElem?_cons_succ, List.getElem?_nil, List.length_cons, List.length_nil, Nat.zero_add, Nat.add_zero, Nat.reduceAdd, Nat.reduceSub, Nat.reduceEqDiff, Nat.reduceLT, Nat.reduceLeDiff, ↓reduceIte, Kind.isOwn, List.take_succ_cons, List.take_zero, List.nil_append, List.cons_append, List.append_nil, List.take_nil, and_self, and_true, true_and, exists_eq_left', Option.some.injEq, Blk.mk.injEq, Kind.own.injEq, List.drop_zero, List.take_length, Nat.le_refl, ne_eq, not_false_eq_true, implies_true, List.forall_mem_cons, List.not_mem_nil, false_imp_iff, Bool.or_false, Bool.false_or, Bool.or_self, Bool.true_or, Bool.or_true, forall_const, reduceCtorEq, List.mem_cons, or_false, forall_eq_or_imp, forall_eq, Nat.succ_ne_self, exists_eq_left, Option.some_inj, byte_ren, one_byte, ren_bytes, len_bytes, take_bytes, take_ints, nlS_0, nlS_1, nlM_0, nlM_1, nlN_0, nlN_1, take_bys1, ren_ints, len_ints]
      · simp only [rK, EntM, compat, apartM, keysBelow, frEnt, geto, eta, idHs, rd, SV.ren, SV.renL, Option.getD_some, Option.getD_none, List.getElem?_cons_zero, List.getElem?_cons_succ, List.getElem?_nil, List.length_cons, List.length_nil, Nat.zero_add, Nat.add_zero, Nat.reduceAdd, Nat.reduceSub, Nat.reduceEqDiff, Nat.reduceLT, Nat.reduceLeDiff, ↓reduceIte, Kind.isOwn, List.take_succ_cons, List.take_zero, List.nil_append, List.cons_append, List.append_nil, List.take_nil, and_self, and_true, true_and, exists_eq_left', Option.some.injEq, Blk.mk.injEq, Kind.own.injEq, List.drop_zero, List.take_length, Nat.le_refl, ne_eq, not_false_eq_true, implies_true, List.forall_mem_cons, List.not_mem_nil, false_imp_iff, Bool.or_false, Bool.false_or, Bool.or_self, Bool.true_or, Bool.or_true, forall_const, reduceCtorEq, List.mem_cons, or_false, forall_eq_or_imp, forall_eq, Nat.succ_ne_self, exists_eq_left, Option.some_inj, byte_ren, one_byte, ren_bytes, len_bytes, take_bytes, take_ints, nlS_0, nlS_1, nlM_0, nlM_1, nlN_0, nlN_1, take_bys1, ren_ints, len_ints]
    · obtain rfl : t = 64 := by omega
      rcases hRt : R 64 with ⟨a, bb, c, d, e, f, g, h⟩
      have hcomp : comp ⟨a0, a1, a2, a3, a4, a5, a6, a7⟩ b = V8.add ⟨a0, a1, a2, a3, a4, a5, a6, a7⟩ ⟨a, bb, c, d, e, f, g, h⟩ := by
        unfold comp; rw [← hRt, ← hRe]
      simp only [hRt]
      simp (config := { maxSteps := 1000000 }) only [callH, tab2, hsl, u32, SV.flatL, SV.flat, Bool.and_true, Bool.and_self, Bool.true_and, beq_self_eq_true, Int.reduceGE, Int.reduceGT, ↓u_callAnd, Blk.mk.injEq, List.cons.injEq, SV.int.injEq, SV.bool.injEq, SV.tup.injEq, SV.agg.injEq, and_self, undef, Int.reduceBNe, Int.reduceBEq, Nat.reduceBNe, Nat.reduceBEq, ↓u_callX, lookF, setv, finO_r, finO_n, finO_x, again_n, again_x, again_r, lookT, eqPat, eqTag, reduceCtorEq, Nat.reduceEqDiff, Nat.reduceAdd, Nat.reduceSub, Nat.reduceMul, Nat.reduceDiv, Nat.reduceLeDiff, Nat.reduceLT, Int.reduceToNat, Int.reduceLT, Int.reduceLE, Int.reduceAdd, Int.reduceSub, Int.reduceMul, Int.reduceNeg, Int.reduceEq, Int.reduceNe, wrap64, false_imp_iff, true_imp_iff, eq_self, decide_true, decide_false, Int.cast_ofNat_Int,  true_and, and_true, false_and, and_false, imp_self, implies_true, List.getElem?_cons_zero, List.getElem?_cons_succ, List.length_cons, List.length_nil, List.append_nil, List.nil_append, List.cons_append, List.take_succ_cons, List.take_zero, List.drop_succ_cons, List.drop_zero, List.take_nil, List.drop_nil, List.reverse_cons, List.reverse_nil, List.map_cons, List.map_nil, Nat.zero_add, Nat.add_zero, frOf, den_nil, den_o0, ↓gd_tt, ↓gd_ff, ↓gd_tf, ↓gd_ft, gd_any, den_o1, kont_app, den_g, setv, Bool.not_true, Bool.not_false, den_skip, den_reg, den_regD, den_regP, den_A, den_regW, den_W, den_bad, evW, baseD, stBlk, touch, clear, untouched, updsW, List.all_cons, List.all_nil, List.contains_cons, List.contains_nil, Bool.not_true, Bool.not_false, Bool.or_false, Bool.or_self, Bool.false_or, Bool.true_or, Bool.or_true, den_seq, den_cond, den_block, den_exit, den_ret, den_b, den_xb, den_xo, den_xc, den_xu, den_rb, den_ro, den_rc, den_ru, den_u, den_loopU, finP_r, finP_n, finP_x, finE_r, finE_n, finE_x, ↓reduceIte, ↓e_box, ↓e_build, ↓e_bslice, ↓e_load, ↓e_store, ↓e_idxS, ↓e_idxV, ↓e_idxT, ↓e_fieldV, ↓e_eqv, ↓e_isNil, ↓e_b2s, ↓e_slcS, ↓e_arrAt, ↓e_ext, ↓e_app, ↓e_copy, ↓e_mv, ↓e_pick, ↓e_new, ↓e_nilc, ↓e_fld, ↓e_idxA, ↓e_bin, ↓e_eqb, ↓e_un, ↓e_conv, ↓e_strS, ↓e_s2b, ↓e_mkfn, ↓e_mksl, ↓e_slcA, ↓e_slcT, ↓e_call, ↓e_callp, ↓e_callv, ↓e_len, ↓e_lenA, ↓e_mx, ↓e_mn, ↓e_mkmap, ↓e_mput, ↓e_mlen, ↓e_mk8, ↓e_capN, ↓e_appZ, ↓u_onInt, ↓u_onBool, ↓u_onOpt0, ↓u_onOpt1, ↓u_binV, ↓u_srcOf, ↓u_srcSl, ↓binI, ↓binS, ↓fillE, ↓evRes, evA, Opd.ev, Sx.get, put, putO, del, dels, frD, memD, pickD, kills, views, newer, rd, rm, upd, splice, keysOf, kvOf, SV.cells?, SV.one, retOf, ↓u_callS, canLW, canV, canC, belowL, apH, apH1, eta, SV.ren, SV.renL, newOwn, targets, rms, Kind.isOwn, ren_bytes, byte_ren, ren_ints, flat_ints, len_ints, List.getElem?_nil, Option.getD_none, Option.getD_some, Nat.sub_zero, not_true_eq_false, not_false_eq_true, Nat.le_refl, take_bytes, take_ints, nlS_0, nlS_1, nlM_0, nlM_1, nlN_0, nlN_1, take_bys1, map_byte, len_bytes, flat_bytes, Int.toNat_natCast, Nat.mul_one, Int.cast_ofNat_Int]
      rw [den_loop]
      refine den_unroll callH_ok (callT_point _ _) 5 ?_
      simp (config := { maxSteps := 1000000 }) only [callH, tab2, hsl, u32, z8, hcomp, V8.add, addI, SV.flatL, SV.flat, Bool.and_true, Bool.and_self, Bool.true_and, beq_self_eq_true, Int.reduceGE, Int.reduceGT, ↓u_callAnd, Blk.mk.injEq, List.cons.injEq, SV.int.injEq, SV.bool.injEq, SV.tup.injEq, SV.agg.injEq, and_self, undef, Int.reduceBNe, Int.reduceBEq, Nat.reduceBNe, Nat.reduceBEq, ↓u_callX, lookF, setv, finO_r, finO_n, finO_x, again_n, again_x, again_r, lookT, eqPat, eqTag, reduceCtorEq, Nat.reduceEqDiff, Nat.reduceAdd, Nat.reduceSub, Nat.reduceMul, Nat.reduceDiv, Nat.reduceLeDiff, Nat.reduceLT, Int.reduceToNat, Int.reduceLT, Int.reduceLE, Int.reduceAdd, Int.reduceSub, Int.reduceMul, Int.reduceNeg, Int.reduceEq, Int.reduceNe, wrap64, false_imp_iff, true_imp_iff, eq_self, decide_true, decide_false, Int.cast_ofNat_Int,  true_and, and_true, false_and, and_false, imp_self, implies_true, List.getElem?_cons_zero, List.getElem?_cons_succ, List.length_cons, List.length_nil, List.append_nil, List.nil_append, List.cons_append, List.take_succ_cons, List.take_zero, List.drop_succ_cons, List.drop_zero, List.take_nil, List.drop_nil, List.reverse_cons, List.reverse_nil, List.map_cons, List.map_nil, Nat.zero_add, Nat.add_zero, frOf, den_nil, den_o0, ↓gd_tt, ↓gd_ff, ↓gd_tf, ↓gd_ft, gd_any, den_o1, kont_app, den_g, setv, Bool.not_true, Bool.not_false, den_skip, den_reg, den_regD, den_regP, den_A, den_regW, den_W, den_bad, evW, baseD, stBlk, touch, clear, untouched, updsW, List.all_cons, List.all_nil, List.contains_cons, List.contains_nil, Bool.not_true, Bool.not_false, Bool.or_false, Bool.or_self, Bool.false_or, Bool.true_or, Bool.or_true, den_seq, den_cond, den_block, den_exit, den_ret, den_b, den_xb, den_xo, den_xc, den_xu, den_rb, den_ro, den_rc, den_ru, den_u, den_loopU, finP_r, finP_n, finP_x, finE_r, finE_n, finE_x, ↓reduceIte, ↓e_box, ↓e_build, ↓e_bslice, ↓e_load, ↓e_store, ↓e_idxS, ↓e_idxV, ↓e_idxT, ↓e_fieldV, ↓e_eqv, ↓e_isNil, ↓e_b2s, ↓e_slcS, ↓e_arrAt, ↓e_ext, ↓e_app, ↓e_copy, ↓e_mv, ↓e_pick, ↓e_new, ↓e_nilc, ↓e_fld, ↓e_idxA, ↓e_bin, ↓e_eqb, ↓e_un, ↓e_conv, ↓e_strS, ↓e_s2b, ↓e_mkfn, ↓e_mksl, ↓e_slcA, ↓e_slcT, ↓e_call, ↓e_callp, ↓e_callv, ↓e_len, ↓e_lenA, ↓e_mx, ↓e_mn, ↓e_mkmap, ↓e_mput, ↓e_mlen, ↓e_mk8, ↓e_capN, ↓e_appZ, ↓u_onInt, ↓u_onBool, ↓u_onOpt0, ↓u_onOpt1, ↓u_binV, ↓u_srcOf, ↓u_srcSl, ↓binI, ↓binS, ↓fillE, ↓evRes, evA, Opd.ev, Sx.get, put, putO, del, dels, frD, memD, pickD, kills, views, newer, rd, rm, upd, splice, keysOf, kvOf, SV.cells?, SV.one, retOf, ↓u_callS, canLW, canV, canC, belowL, apH, apH1, eta, SV.ren, SV.renL, newOwn, targets, rms, Kind.isOwn, ren_bytes, byte_ren, ren_ints, flat_ints, len_ints, List.getElem?_nil, Option.getD_none, Option.getD_some, Nat.sub_zero, not_true_eq_false, not_false_eq_true, Nat.le_refl, take_bytes, take_ints, nlS_0, nlS_1, nlM_0, nlM_1, nlN_0, nlN_1, take_bys1, map_byte, len_bytes, flat_bytes, Int.toNat_natCast, Nat.mul_one, Int.cast_ofNat_Int]
end Go.Proofs.YtkfbkooobfepeaaDoor

/- SHA-256 of package hash: compress, as a contract by value. -/
namespace Go.Proofs.YtkfbkooobfepeaaDoor
open Go Go.Sx Sf
set_option maxRecDepth 100000
set_option linter.unusedSimpArgs false
set_option linter.unusedVariables false

def g73 : GS
  | [.agg [.int .u32 a, .int .u32 b, .int .u32 c, .int .u32 d, .int .u32 e, .int .u32 f, .int .u32 g, .int .u32 h], .slc 0 0 1 64 cap], [(0, ⟨.view, cells⟩)] => match unI8 cells with
    | some bl => match Nat.beq bl.length 64, capB cap 64 with
      | true, true => some (.agg ((comp ⟨a, b, c, d, e, f, g, h⟩ bl).l.map u32), [], 1)
      | _, _ => none
    | none => none
  | _, _ => none
theorem g73_ok : FunS Tryd.prog tH 73 g73 := by
  intro a0 m0 r m1 n1 hh
  unfold g73 at hh
  split at hh
  · rename_i a b c d e f g h cap cells
    split at hh
    · rename_i bl hb
      split at hh
      · rename_i h1 h2
        cases hh
        rw [unI8_some hb]
        exact ⟨f73 ⟨a, b, c, d, e, f, g, h⟩ bl (Nat.eq_of_beq_eq_true h1) cap (capB_ok h2), by simp [freshB]⟩
      · cases hh
    · cases hh
  · cases hh
end Go.Proofs.YtkfbkooobfepeaaDoor

/- The sanity of the laws: true. -/
namespace Go.Proofs.YtkfbkooobfepeaaDoor
open Go Go.Sx Sf
set_option maxRecDepth 100000
theorem sane_run : runF tb tH (runS [(73, g73)]) 300 30 9 [] [] 0 = some (.bool true, [], 0) := by kernel_rfl
theorem sane_x : runS [(73, g73)] 9 [] [] 0 = none := rfl
/-- the sanity of the laws is true -/
theorem f9 : Fun Tryd.prog tH 9 [] [] 0 (.bool true) [] 0 :=
  fun_of_run tb_ok (runS_ok (fun x h => by simp only [List.mem_singleton] at h; subst h; exact g73_ok)) sane_x sane_run
def gSane : GS
  | [], [] => some (.bool true, [], 0)
  | _, _ => none
theorem gSane_ok : FunS Tryd.prog tH 9 gSane := by
  intro a0 m0 r m1 n1 h
  unfold gSane at h
  split at h
  · cases h; exact ⟨f9, by simp [freshB]⟩
  · cases h
end Go.Proofs.YtkfbkooobfepeaaDoor
