/- The proof, part Qd: the texts WirA, WirB, WirC, WirD, WirE, WirF, PlaA, PlaB. -/
import Derived.Test.YtkfbkooobfepeaaDoorQc
/- Package wire: the encoding of an integer. -/
namespace Go.Proofs.YtkfbkooobfepeaaDoor
open Go Go.Sx Sf
set_option maxRecDepth 100000
set_option linter.unusedSimpArgs false
set_option linter.unusedVariables false

variable {tS : List (Nat × List SV)}
def nth8 (m : Int) (i : Nat) : Int := m.fdiv (2 ^ (min (8 * i) IntKind.u64.bits))
def topK (m : Int) : Nat → Nat
  | 0 => 0
  | k + 1 => if nth8 m k > 0 then k + 1 else topK m k
theorem topK_le (m : Int) : ∀ k, topK m k ≤ k
  | 0 => Nat.le_refl _
  | k + 1 => by unfold topK; split; exact Nat.le_refl _; exact Nat.le_succ_of_le (topK_le m k)
def encTail (m f : Int) : Nat → List UInt8
  | 0 => []
  | i + 1 => flipB (IntKind.u8.wrap (nth8 m i)) f :: encTail m f i
theorem encTail_len (m f : Int) : ∀ i, (encTail m f i).length = i
  | 0 => rfl
  | i + 1 => by simp [encTail, encTail_len m f i]
def encHd (f : Int) (k : Nat) : UInt8 := flipB (IntKind.u8.wrap (128 + (k : Int))) f
def encM (n : Int) : Int := if n < 0 then bitop .xor .u64 (if IntKind.u64.signed then -1 else IntKind.u64.max) (IntKind.u64.wrap n) else IntKind.u64.wrap n
def encF (n : Int) : Int := if n < 0 then 255 else 0
/-- the encoding of an integer -/
def encI (n : Int) : List UInt8 := encHd (encF n) (topK (encM n) 8) :: encTail (encM n) (encF n) (topK (encM n) 8)
theorem encI_len (n : Int) : (encI n).length ≤ 9 := by
  simp only [encI, List.length_cons, encTail_len]
  have := topK_le (encM n) 8
  omega

/-- a fresh slice of bytes -/
def rB (l : List UInt8) (i : Nat) : SV := .slc i 0 1 l.length none
def blB (l : List UInt8) : Blk := ⟨.own 5, bys l⟩

set_option maxHeartbeats 4000000 in
theorem f34 (n : Int) : Fun Tryd.prog tS 34 [.int .i64 n] [] 0 (.slc 0 0 1 (encI n).length none) [(0, ⟨.own 5, bys (encI n)⟩)] 1 := by
  refine fun_any none cF cF_ok chk34 (show 1 ≤ 47 by decide) (Nat.zero_le _) ?_
  unfold sf34
  have hlen := encI_len n
  have hren := fun η b => ren_bytes η b
  have key : (bitop .xor .u64 (if IntKind.u64.signed then -1 else IntKind.u64.max) (IntKind.u64.wrap n) = encM n ∧ (255 : Int) = encF n ∧ n < 0) ∨ (IntKind.u64.wrap n = encM n ∧ (0 : Int) = encF n ∧ ¬ n < 0) := by
    by_cases hn : n < 0
    · left; simp only [encM, encF, hn, if_true]; trivial
    · right; simp only [encM, encF, hn, if_false]; trivial
  rcases key with ⟨k1, k2, hn⟩ | ⟨k1, k2, hn⟩
  all_goals
    simp (config := { maxSteps := 1000000 }) only [hn, k1, SV.flatL, SV.flat, Bool.and_true, Bool.and_self, Bool.true_and, beq_self_eq_true, Int.reduceGE, Int.reduceGT, ↓u_callAnd, Blk.mk.injEq, List.cons.injEq, SV.int.injEq, SV.bool.injEq, SV.tup.injEq, SV.agg.injEq, and_self, undef, Int.reduceBNe, Int.reduceBEq, Nat.reduceBNe, Nat.reduceBEq, ↓u_callX, lookF, setv, finO_r, finO_n, finO_x, again_n, again_x, again_r, lookT, eqPat, eqTag, reduceCtorEq, Nat.reduceEqDiff, Nat.reduceAdd, Nat.reduceSub, Nat.reduceMul, Nat.reduceDiv, Nat.reduceLeDiff, Nat.reduceLT, Int.reduceToNat, Int.reduceLT, Int.reduceLE, Int.reduceAdd, Int.reduceSub, Int.reduceMul, Int.reduceNeg, Int.reduceEq, Int.reduceNe, wrap64, false_imp_iff, true_imp_iff, eq_self, decide_true, decide_false, Int.cast_ofNat_Int,  true_and, and_true, false_and, and_false, imp_self, implies_true, List.getElem?_cons_zero, List.getElem?_cons_succ, List.length_cons, List.length_nil, List.append_nil, List.nil_append, List.cons_append, List.take_succ_cons, List.take_zero, List.drop_succ_cons, List.drop_zero, List.take_nil, List.drop_nil, List.reverse_cons, List.reverse_nil, List.map_cons, List.map_nil, Nat.zero_add, Nat.add_zero, frOf, den_nil, den_o0, ↓gd_tt, ↓gd_ff, ↓gd_tf, ↓gd_ft, gd_any, den_o1, kont_app, den_g, setv, Bool.not_true, Bool.not_false, den_skip, den_reg, den_regD, den_regP, den_A, den_regW, den_W, den_bad, evW, baseD, stBlk, touch, clear, untouched, updsW, List.all_cons, List.all_nil, List.contains_cons, List.contains_nil, Bool.not_true, Bool.not_false, Bool.or_false, Bool.or_self, Bool.false_or, Bool.true_or, Bool.or_true, den_seq, den_cond, den_block, den_exit, den_ret, den_b, den_xb, den_xo, den_xc, den_xu, den_rb, den_ro, den_rc, den_ru, den_u, den_loopU, finP_r, finP_n, finP_x, finE_r, finE_n, finE_x, ↓reduceIte, ↓e_box, ↓e_build, ↓e_bslice, ↓e_load, ↓e_store, ↓e_idxS, ↓e_idxV, ↓e_idxT, ↓e_fieldV, ↓e_eqv, ↓e_isNil, ↓e_b2s, ↓e_slcS, ↓e_arrAt, ↓e_ext, ↓e_app, ↓e_copy, ↓e_mv, ↓e_pick, ↓e_new, ↓e_nilc, ↓e_fld, ↓e_idxA, ↓e_bin, ↓e_eqb, ↓e_un, ↓e_conv, ↓e_strS, ↓e_s2b, ↓e_mkfn, ↓e_mksl, ↓e_slcA, ↓e_slcT, ↓e_call, ↓e_callp, ↓e_callv, ↓e_len, ↓e_lenA, ↓e_mx, ↓e_mn, ↓e_mkmap, ↓e_mput, ↓e_mlen, ↓e_mk8, ↓e_capN, ↓e_appZ, ↓u_onInt, ↓u_onBool, ↓u_onOpt0, ↓u_onOpt1, ↓u_binV, ↓u_srcOf, ↓u_srcSl, ↓binI, ↓binS, ↓fillE, ↓evRes, evA, Opd.ev, Sx.get, put, putO, del, dels, frD, memD, pickD, kills, views, newer, rd, rm, upd, splice, keysOf, kvOf, SV.cells?, SV.one, retOf]
    generalize hm : encM n = m at *
    generalize hf : encF n = f at *
    rw [den_loop]
    refine den_inv cF_ok (σ := Nat) (fun k => [(5, .int .i64 (k : Int)), (4, .int .u8 f), (3, .int .u64 m)]) (fun _ => []) (fun _ => 0)
      (fun k => k ≤ 8 ∧ topK m k = topK m 8) (fun k => k) 8 ⟨[], by simp [EntM, compat, apartM, keysBelow, frEnt, geto, eta, idHs, rd, SV.ren, SV.renL, Option.getD_some, Option.getD_none, List.getElem?_cons_zero, List.getElem?_cons_succ, List.getElem?_nil, List.length_cons, List.length_nil, Nat.zero_add, Nat.add_zero, Nat.reduceAdd, Nat.reduceSub, Nat.reduceEqDiff, Nat.reduceLT, Nat.reduceLeDiff, ↓reduceIte, Kind.isOwn, List.take_succ_cons, List.take_zero, List.nil_append, List.cons_append, List.append_nil, List.take_nil, and_self, and_true, true_and, exists_eq_left', Option.some.injEq, Blk.mk.injEq, Kind.own.injEq, List.drop_zero, List.take_length, Nat.le_refl, ne_eq, not_false_eq_true, implies_true, List.forall_mem_cons, List.not_mem_nil, false_imp_iff, Bool.or_false, Bool.false_or, Bool.or_self, Bool.true_or, Bool.or_true, forall_const, reduceCtorEq, List.mem_cons, or_false, forall_eq_or_imp, forall_eq, Nat.succ_ne_self, exists_eq_left, Option.some_inj], by simp [← k2, EntM, compat, apartM, keysBelow, frEnt, geto, eta, idHs, rd, SV.ren, SV.renL, Option.getD_some, Option.getD_none, List.getElem?_cons_zero, List.getElem?_cons_succ, List.getElem?_nil, List.length_cons, List.length_nil, Nat.zero_add, Nat.add_zero, Nat.reduceAdd, Nat.reduceSub, Nat.reduceEqDiff, Nat.reduceLT, Nat.reduceLeDiff, ↓reduceIte, Kind.isOwn, List.take_succ_cons, List.take_zero, List.nil_append, List.cons_append, List.append_nil, List.take_nil, and_self, and_true, true_and, exists_eq_left', Option.some.injEq, Blk.mk.injEq, Kind.own.injEq, List.drop_zero, List.take_length, Nat.le_refl, ne_eq, not_false_eq_true, implies_true, List.forall_mem_cons, List.not_mem_nil, false_imp_iff, Bool.or_false, Bool.false_or, Bool.or_self, Bool.true_or, Bool.or_true, forall_const, reduceCtorEq, List.mem_cons, or_false, forall_eq_or_imp, forall_eq, Nat.succ_ne_self, exists_eq_left, Option.some_inj]⟩ ⟨Nat.le_refl _, rfl⟩ ?_
    rintro k ⟨hk8, hk⟩
    have step : (k = 0 ∨ (0 < k ∧ nth8 m (k - 1) > 0)) ∨ (0 < k ∧ ¬ nth8 m (k - 1) > 0) := by
      by_cases h0 : k = 0
      · exact .inl (.inl h0)
      · by_cases h1 : nth8 m (k - 1) > 0
        · exact .inl (.inr ⟨by omega, h1⟩)
        · exact .inr ⟨by omega, h1⟩
    have hI : encHd f (topK m 8) :: encTail m f (topK m 8) = encI n := by unfold encI; rw [hm, hf]
    have w3 : 0 < k → IntKind.i64.wrap (8 * ((k : Int) - 1)) = ((8 * (k - 1) : Nat) : Int) := fun h => by rw [wrap64_eq (by omega) (by omega)]; omega
    have w1 : IntKind.i64.wrap (128 + (k : Int)) = 128 + (k : Int) := wrap64_eq (by omega) (by omega)
    have w2 : IntKind.i64.wrap ((k : Int) - 1) = (k : Int) - 1 := wrap64_eq (by omega) (by omega)
    rcases step with hx | ⟨h0, h1⟩
    · have hkK : topK m 8 = k := by
        rw [← hk]
        rcases hx with rfl | ⟨h0, h1⟩
        · rfl
        · obtain ⟨j, rfl⟩ : ∃ j, k = j + 1 := ⟨k - 1, by omega⟩
          simp only [Nat.add_sub_cancel] at h1
          unfold topK
          rw [if_pos h1]
      rw [hkK] at hI
      have hb : SV.int .u8 (bitop .xor .u8 (IntKind.u8.wrap (128 + (k : Int))) f) = SV.byte (encHd f k) := flipB_sv _ _
      rcases hx with h0 | ⟨h0, h1⟩
      case' inl =>
        have g0 : ¬ (k : Int) > 0 := by omega
        simp (config := { maxSteps := 1000000 }) only [w1, w2, g0, SV.flatL, SV.flat, Bool.and_true, Bool.and_self, Bool.true_and, beq_self_eq_true, Int.reduceGE, Int.reduceGT, ↓u_callAnd, Blk.mk.injEq, List.cons.injEq, SV.int.injEq, SV.bool.injEq, SV.tup.injEq, SV.agg.injEq, and_self, undef, Int.reduceBNe, Int.reduceBEq, Nat.reduceBNe, Nat.reduceBEq, ↓u_callX, lookF, setv, finO_r, finO_n, finO_x, again_n, again_x, again_r, lookT, eqPat, eqTag, reduceCtorEq, Nat.reduceEqDiff, Nat.reduceAdd, Nat.reduceSub, Nat.reduceMul, Nat.reduceDiv, Nat.reduceLeDiff, Nat.reduceLT, Int.reduceToNat, Int.reduceLT, Int.reduceLE, Int.reduceAdd, Int.reduceSub, Int.reduceMul, Int.reduceNeg, Int.reduceEq, Int.reduceNe, wrap64, false_imp_iff, true_imp_iff, eq_self, decide_true, decide_false, Int.cast_ofNat_Int,  true_and, and_true, false_and, and_false, imp_self, implies_true, List.getElem?_cons_zero, List.getElem?_cons_succ, List.length_cons, List.length_nil, List.append_nil, List.nil_append, List.cons_append, List.take_succ_cons, List.take_zero, List.drop_succ_cons, List.drop_zero, List.take_nil, List.drop_nil, List.reverse_cons, List.reverse_nil, List.map_cons, List.map_nil, Nat.zero_add, Nat.add_zero, frOf, den_nil, den_o0, ↓gd_tt, ↓gd_ff, ↓gd_tf, ↓gd_ft, gd_any, den_o1, kont_app, den_g, setv, Bool.not_true, Bool.not_false, den_skip, den_reg, den_regD, den_regP, den_A, den_regW, den_W, den_bad, evW, baseD, stBlk, touch, clear, untouched, updsW, List.all_cons, List.all_nil, List.contains_cons, List.contains_nil, Bool.not_true, Bool.not_false, Bool.or_false, Bool.or_self, Bool.false_or, Bool.true_or, Bool.or_true, den_seq, den_cond, den_block, den_exit, den_ret, den_b, den_xb, den_xo, den_xc, den_xu, den_rb, den_ro, den_rc, den_ru, den_u, den_loopU, finP_r, finP_n, finP_x, finE_r, finE_n, finE_x, ↓reduceIte, ↓e_box, ↓e_build, ↓e_bslice, ↓e_load, ↓e_store, ↓e_idxS, ↓e_idxV, ↓e_idxT, ↓e_fieldV, ↓e_eqv, ↓e_isNil, ↓e_b2s, ↓e_slcS, ↓e_arrAt, ↓e_ext, ↓e_app, ↓e_copy, ↓e_mv, ↓e_pick, ↓e_new, ↓e_nilc, ↓e_fld, ↓e_idxA, ↓e_bin, ↓e_eqb, ↓e_un, ↓e_conv, ↓e_strS, ↓e_s2b, ↓e_mkfn, ↓e_mksl, ↓e_slcA, ↓e_slcT, ↓e_call, ↓e_callp, ↓e_callv, ↓e_len, ↓e_lenA, ↓e_mx, ↓e_mn, ↓e_mkmap, ↓e_mput, ↓e_mlen, ↓e_mk8, ↓e_capN, ↓e_appZ, ↓u_onInt, ↓u_onBool, ↓u_onOpt0, ↓u_onOpt1, ↓u_binV, ↓u_srcOf, ↓u_srcSl, ↓binI, ↓binS, ↓fillE, ↓evRes, evA, Opd.ev, Sx.get, put, putO, del, dels, frD, memD, pickD, kills, views, newer, rd, rm, upd, splice, keysOf, kvOf, SV.cells?, SV.one, retOf, ↓u_callS, canLW, canV, canC, belowL, apH, apH1, eta, SV.ren, SV.renL, newOwn, targets, rms, Kind.isOwn, ren_bytes, byte_ren, ren_ints, flat_ints, len_ints, List.getElem?_nil, Option.getD_none, Option.getD_some, Nat.sub_zero, Nat.le_refl, take_bytes, map_byte, len_bytes, flat_bytes, Int.toNat_natCast, Nat.mul_one, Int.cast_ofNat_Int]
      case' inr =>
        have g0 : (k : Int) > 0 := by omega
        have g1 : (0 : Int) ≤ ((8 * (k - 1) : Nat) : Int) := by omega
        have g2 : m.fdiv (2 ^ (min (8 * (k - 1)) IntKind.u64.bits)) > 0 := h1
        simp (config := { maxSteps := 1000000 }) only [w1, w2, w3 h0, g0, g1, g2, SV.flatL, SV.flat, Bool.and_true, Bool.and_self, Bool.true_and, beq_self_eq_true, Int.reduceGE, Int.reduceGT, ↓u_callAnd, Blk.mk.injEq, List.cons.injEq, SV.int.injEq, SV.bool.injEq, SV.tup.injEq, SV.agg.injEq, and_self, undef, Int.reduceBNe, Int.reduceBEq, Nat.reduceBNe, Nat.reduceBEq, ↓u_callX, lookF, setv, finO_r, finO_n, finO_x, again_n, again_x, again_r, lookT, eqPat, eqTag, reduceCtorEq, Nat.reduceEqDiff, Nat.reduceAdd, Nat.reduceSub, Nat.reduceMul, Nat.reduceDiv, Nat.reduceLeDiff, Nat.reduceLT, Int.reduceToNat, Int.reduceLT, Int.reduceLE, Int.reduceAdd, Int.reduceSub, Int.reduceMul, Int.reduceNeg, Int.reduceEq, Int.reduceNe, wrap64, false_imp_iff, true_imp_iff, eq_self, decide_true, decide_false, Int.cast_ofNat_Int,  true_and, and_true, false_and, and_false, imp_self, implies_true, List.getElem?_cons_zero, List.getElem?_cons_succ, List.length_cons, List.length_nil, List.append_nil, List.nil_append, List.cons_append, List.take_succ_cons, List.take_zero, List.drop_succ_cons, List.drop_zero, List.take_nil, List.drop_nil, List.reverse_cons, List.reverse_nil, List.map_cons, List.map_nil, Nat.zero_add, Nat.add_zero, frOf, den_nil, den_o0, ↓gd_tt, ↓gd_ff, ↓gd_tf, ↓gd_ft, gd_any, den_o1, kont_app, den_g, setv, Bool.not_true, Bool.not_false, den_skip, den_reg, den_regD, den_regP, den_A, den_regW, den_W, den_bad, evW, baseD, stBlk, touch, clear, untouched, updsW, List.all_cons, List.all_nil, List.contains_cons, List.contains_nil, Bool.not_true, Bool.not_false, Bool.or_false, Bool.or_self, Bool.false_or, Bool.true_or, Bool.or_true, den_seq, den_cond, den_block, den_exit, den_ret, den_b, den_xb, den_xo, den_xc, den_xu, den_rb, den_ro, den_rc, den_ru, den_u, den_loopU, finP_r, finP_n, finP_x, finE_r, finE_n, finE_x, ↓reduceIte, ↓e_box, ↓e_build, ↓e_bslice, ↓e_load, ↓e_store, ↓e_idxS, ↓e_idxV, ↓e_idxT, ↓e_fieldV, ↓e_eqv, ↓e_isNil, ↓e_b2s, ↓e_slcS, ↓e_arrAt, ↓e_ext, ↓e_app, ↓e_copy, ↓e_mv, ↓e_pick, ↓e_new, ↓e_nilc, ↓e_fld, ↓e_idxA, ↓e_bin, ↓e_eqb, ↓e_un, ↓e_conv, ↓e_strS, ↓e_s2b, ↓e_mkfn, ↓e_mksl, ↓e_slcA, ↓e_slcT, ↓e_call, ↓e_callp, ↓e_callv, ↓e_len, ↓e_lenA, ↓e_mx, ↓e_mn, ↓e_mkmap, ↓e_mput, ↓e_mlen, ↓e_mk8, ↓e_capN, ↓e_appZ, ↓u_onInt, ↓u_onBool, ↓u_onOpt0, ↓u_onOpt1, ↓u_binV, ↓u_srcOf, ↓u_srcSl, ↓binI, ↓binS, ↓fillE, ↓evRes, evA, Opd.ev, Sx.get, put, putO, del, dels, frD, memD, pickD, kills, views, newer, rd, rm, upd, splice, keysOf, kvOf, SV.cells?, SV.one, retOf, ↓u_callS, canLW, canV, canC, belowL, apH, apH1, eta, SV.ren, SV.renL, newOwn, targets, rms, Kind.isOwn, ren_bytes, byte_ren, ren_ints, flat_ints, len_ints, List.getElem?_nil, Option.getD_none, Option.getD_some, Nat.sub_zero, Nat.le_refl, take_bytes, map_byte, len_bytes, flat_bytes, Int.toNat_natCast, Nat.mul_one, Int.cast_ofNat_Int]
      all_goals
        rw [den_loop]
        refine den_inv cF_ok (σ := Nat × List UInt8) (fun s => [(7, .int .i64 ((s.1 : Int) - 1)), (6, .slc 0 0 1 s.2.length none), (4, .int .u8 f), (3, .int .u64 m)])
          (fun s => [(0, ⟨.own 5, bys s.2⟩)]) (fun _ => 1) (fun s => s.1 ≤ k ∧ s.2 ++ encTail m f s.1 = encI n) (fun s => s.1) (k, [encHd f k]) ⟨[(0, 0)], by simp [hb, EntM, compat, apartM, keysBelow, frEnt, geto, eta, idHs, rd, SV.ren, SV.renL, Option.getD_some, Option.getD_none, List.getElem?_cons_zero, List.getElem?_cons_succ, List.getElem?_nil, List.length_cons, List.length_nil, Nat.zero_add, Nat.add_zero, Nat.reduceAdd, Nat.reduceSub, Nat.reduceEqDiff, Nat.reduceLT, Nat.reduceLeDiff, ↓reduceIte, Kind.isOwn, List.take_succ_cons, List.take_zero, List.nil_append, List.cons_append, List.append_nil, List.take_nil, and_self, and_true, true_and, exists_eq_left', Option.some.injEq, Blk.mk.injEq, Kind.own.injEq, List.drop_zero, List.take_length, Nat.le_refl, ne_eq, not_false_eq_true, implies_true, List.forall_mem_cons, List.not_mem_nil, false_imp_iff, Bool.or_false, Bool.false_or, Bool.or_self, Bool.true_or, Bool.or_true, forall_const, reduceCtorEq, List.mem_cons, or_false, forall_eq_or_imp, forall_eq, Nat.succ_ne_self, exists_eq_left, Option.some_inj, byte_ren, one_byte, ren_bytes, len_bytes, ren_ints, len_ints], by simp [hb, EntM, compat, apartM, keysBelow, frEnt, geto, eta, idHs, rd, SV.ren, SV.renL, Option.getD_some, Option.getD_none, List.getElem?_cons_zero, List.getElem?_cons_succ, List.getElem?_nil, List.length_cons, List.length_nil, Nat.zero_add, Nat.add_zero, Nat.reduceAdd, Nat.reduceSub, Nat.reduceEqDiff, Nat.reduceLT, Nat.reduceLeDiff, ↓reduceIte, Kind.isOwn, List.take_succ_cons, List.take_zero, List.nil_append, List.cons_append, List.append_nil, List.take_nil, and_self, and_true, true_and, exists_eq_left', Option.some.injEq, Blk.mk.injEq, Kind.own.injEq, List.drop_zero, List.take_length, Nat.le_refl, ne_eq, not_false_eq_true, implies_true, List.forall_mem_cons, List.not_mem_nil, false_imp_iff, Bool.or_false, Bool.false_or, Bool.or_self, Bool.true_or, Bool.or_true, forall_const, reduceCtorEq, List.mem_cons, or_false, forall_eq_or_imp, forall_eq, Nat.succ_ne_self, exists_eq_left, Option.some_inj, byte_ren, one_byte, ren_bytes, len_bytes, ren_ints, len_ints]⟩ ⟨Nat.le_refl _, hI⟩ ?_
        rintro ⟨i, pre⟩ ⟨hi, hpre⟩
        simp only at hi hpre
        have v2 : IntKind.i64.wrap ((i : Int) - 1 - 1) = (i : Int) - 1 - 1 := wrap64_eq (by omega) (by omega)
        have hl := congrArg List.length hpre
        simp only [List.length_append, encTail_len] at hl
        by_cases hi0 : i = 0
        · have q0 : ¬ (i : Int) - 1 ≥ 0 := by omega
          subst hi0
          simp only [encTail, List.append_nil] at hpre
          subst hpre
          simp (config := { maxSteps := 1000000 }) only [q0, SV.flatL, SV.flat, Bool.and_true, Bool.and_self, Bool.true_and, beq_self_eq_true, Int.reduceGE, Int.reduceGT, ↓u_callAnd, Blk.mk.injEq, List.cons.injEq, SV.int.injEq, SV.bool.injEq, SV.tup.injEq, SV.agg.injEq, and_self, undef, Int.reduceBNe, Int.reduceBEq, Nat.reduceBNe, Nat.reduceBEq, ↓u_callX, lookF, setv, finO_r, finO_n, finO_x, again_n, again_x, again_r, lookT, eqPat, eqTag, reduceCtorEq, Nat.reduceEqDiff, Nat.reduceAdd, Nat.reduceSub, Nat.reduceMul, Nat.reduceDiv, Nat.reduceLeDiff, Nat.reduceLT, Int.reduceToNat, Int.reduceLT, Int.reduceLE, Int.reduceAdd, Int.reduceSub, Int.reduceMul, Int.reduceNeg, Int.reduceEq, Int.reduceNe, wrap64, false_imp_iff, true_imp_iff, eq_self, decide_true, decide_false, Int.cast_ofNat_Int,  true_and, and_true, false_and, and_false, imp_self, implies_true, List.getElem?_cons_zero, List.getElem?_cons_succ, List.length_cons, List.length_nil, List.append_nil, List.nil_append, List.cons_append, List.take_succ_cons, List.take_zero, List.drop_succ_cons, List.drop_zero, List.take_nil, List.drop_nil, List.reverse_cons, List.reverse_nil, List.map_cons, List.map_nil, Nat.zero_add, Nat.add_zero, frOf, den_nil, den_o0, ↓gd_tt, ↓gd_ff, ↓gd_tf, ↓gd_ft, gd_any, den_o1, kont_app, den_g, setv, Bool.not_true, Bool.not_false, den_skip, den_reg, den_regD, den_regP, den_A, den_regW, den_W, den_bad, evW, baseD, stBlk, touch, clear, untouched, updsW, List.all_cons, List.all_nil, List.contains_cons, List.contains_nil, Bool.not_true, Bool.not_false, Bool.or_false, Bool.or_self, Bool.false_or, Bool.true_or, Bool.or_true, den_seq, den_cond, den_block, den_exit, den_ret, den_b, den_xb, den_xo, den_xc, den_xu, den_rb, den_ro, den_rc, den_ru, den_u, den_loopU, finP_r, finP_n, finP_x, finE_r, finE_n, finE_x, ↓reduceIte, ↓e_box, ↓e_build, ↓e_bslice, ↓e_load, ↓e_store, ↓e_idxS, ↓e_idxV, ↓e_idxT, ↓e_fieldV, ↓e_eqv, ↓e_isNil, ↓e_b2s, ↓e_slcS, ↓e_arrAt, ↓e_ext, ↓e_app, ↓e_copy, ↓e_mv, ↓e_pick, ↓e_new, ↓e_nilc, ↓e_fld, ↓e_idxA, ↓e_bin, ↓e_eqb, ↓e_un, ↓e_conv, ↓e_strS, ↓e_s2b, ↓e_mkfn, ↓e_mksl, ↓e_slcA, ↓e_slcT, ↓e_call, ↓e_callp, ↓e_callv, ↓e_len, ↓e_lenA, ↓e_mx, ↓e_mn, ↓e_mkmap, ↓e_mput, ↓e_mlen, ↓e_mk8, ↓e_capN, ↓e_appZ, ↓u_onInt, ↓u_onBool, ↓u_onOpt0, ↓u_onOpt1, ↓u_binV, ↓u_srcOf, ↓u_srcSl, ↓binI, ↓binS, ↓fillE, ↓evRes, evA, Opd.ev, Sx.get, put, putO, del, dels, frD, memD, pickD, kills, views, newer, rd, rm, upd, splice, keysOf, kvOf, SV.cells?, SV.one, retOf]
          exact ⟨[(0, 0)], by simp [EntM, compat, apartM, keysBelow, frEnt, geto, eta, idHs, rd, SV.ren, SV.renL, Option.getD_some, Option.getD_none, List.getElem?_cons_zero, List.getElem?_cons_succ, List.getElem?_nil, List.length_cons, List.length_nil, Nat.zero_add, Nat.add_zero, Nat.reduceAdd, Nat.reduceSub, Nat.reduceEqDiff, Nat.reduceLT, Nat.reduceLeDiff, ↓reduceIte, Kind.isOwn, List.take_succ_cons, List.take_zero, List.nil_append, List.cons_append, List.append_nil, List.take_nil, and_self, and_true, true_and, exists_eq_left', Option.some.injEq, Blk.mk.injEq, Kind.own.injEq, List.drop_zero, List.take_length, Nat.le_refl, ne_eq, not_false_eq_true, implies_true, List.forall_mem_cons, List.not_mem_nil, false_imp_iff, Bool.or_false, Bool.false_or, Bool.or_self, Bool.true_or, Bool.or_true, forall_const, reduceCtorEq, List.mem_cons, or_false, forall_eq_or_imp, forall_eq, Nat.succ_ne_self, exists_eq_left, Option.some_inj, byte_ren, one_byte, ren_bytes, len_bytes, ren_ints, len_ints], by simp [EntM, compat, apartM, keysBelow, frEnt, geto, eta, idHs, rd, SV.ren, SV.renL, Option.getD_some, Option.getD_none, List.getElem?_cons_zero, List.getElem?_cons_succ, List.getElem?_nil, List.length_cons, List.length_nil, Nat.zero_add, Nat.add_zero, Nat.reduceAdd, Nat.reduceSub, Nat.reduceEqDiff, Nat.reduceLT, Nat.reduceLeDiff, ↓reduceIte, Kind.isOwn, List.take_succ_cons, List.take_zero, List.nil_append, List.cons_append, List.append_nil, List.take_nil, and_self, and_true, true_and, exists_eq_left', Option.some.injEq, Blk.mk.injEq, Kind.own.injEq, List.drop_zero, List.take_length, Nat.le_refl, ne_eq, not_false_eq_true, implies_true, List.forall_mem_cons, List.not_mem_nil, false_imp_iff, Bool.or_false, Bool.false_or, Bool.or_self, Bool.true_or, Bool.or_true, forall_const, reduceCtorEq, List.mem_cons, or_false, forall_eq_or_imp, forall_eq, Nat.succ_ne_self, exists_eq_left, Option.some_inj, byte_ren, one_byte, ren_bytes, len_bytes, ren_ints, len_ints]⟩
        · have q0 : (i : Int) - 1 ≥ 0 := by omega
          have v3 : IntKind.i64.wrap (8 * ((i : Int) - 1)) = ((8 * (i - 1) : Nat) : Int) := by rw [wrap64_eq (by omega) (by omega)]; omega
          have q1 : (0 : Int) ≤ ((8 * (i - 1) : Nat) : Int) := by omega
          have hb2 : SV.int .u8 (bitop .xor .u8 (IntKind.u8.wrap (m.fdiv (2 ^ (min (8 * (i - 1)) IntKind.u64.bits)))) f) = SV.byte (flipB (IntKind.u8.wrap (nth8 m (i - 1))) f) := flipB_sv _ _
          simp (config := { maxSteps := 1000000 }) only [v2, v3, q0, q1, SV.flatL, SV.flat, Bool.and_true, Bool.and_self, Bool.true_and, beq_self_eq_true, Int.reduceGE, Int.reduceGT, ↓u_callAnd, Blk.mk.injEq, List.cons.injEq, SV.int.injEq, SV.bool.injEq, SV.tup.injEq, SV.agg.injEq, and_self, undef, Int.reduceBNe, Int.reduceBEq, Nat.reduceBNe, Nat.reduceBEq, ↓u_callX, lookF, setv, finO_r, finO_n, finO_x, again_n, again_x, again_r, lookT, eqPat, eqTag, reduceCtorEq, Nat.reduceEqDiff, Nat.reduceAdd, Nat.reduceSub, Nat.reduceMul, Nat.reduceDiv, Nat.reduceLeDiff, Nat.reduceLT, Int.reduceToNat, Int.reduceLT, Int.reduceLE, Int.reduceAdd, Int.reduceSub, Int.reduceMul, Int.reduceNeg, Int.reduceEq, Int.reduceNe, wrap64, false_imp_iff, true_imp_iff, eq_self, decide_true, decide_false, Int.cast_ofNat_Int,  true_and, and_true, false_and, and_false, imp_self, implies_true, List.getElem?_cons_zero, List.getElem?_cons_succ, List.length_cons, List.length_nil, List.append_nil, List.nil_append, List.cons_append, List.take_succ_cons, List.take_zero, List.drop_succ_cons, List.drop_zero, List.take_nil, List.drop_nil, List.reverse_cons, List.reverse_nil, List.map_cons, List.map_nil, Nat.zero_add, Nat.add_zero, frOf, den_nil, den_o0, ↓gd_tt, ↓gd_ff, ↓gd_tf, ↓gd_ft, gd_any, den_o1, kont_app, den_g, setv, Bool.not_true, Bool.not_false, den_skip, den_reg, den_regD, den_regP, den_A, den_regW, den_W, den_bad, evW, baseD, stBlk, touch, clear, untouched, updsW, List.all_cons, List.all_nil, List.contains_cons, List.contains_nil, Bool.not_true, Bool.not_false, Bool.or_false, Bool.or_self, Bool.false_or, Bool.true_or, Bool.or_true, den_seq, den_cond, den_block, den_exit, den_ret, den_b, den_xb, den_xo, den_xc, den_xu, den_rb, den_ro, den_rc, den_ru, den_u, den_loopU, finP_r, finP_n, finP_x, finE_r, finE_n, finE_x, ↓reduceIte, ↓e_box, ↓e_build, ↓e_bslice, ↓e_load, ↓e_store, ↓e_idxS, ↓e_idxV, ↓e_idxT, ↓e_fieldV, ↓e_eqv, ↓e_isNil, ↓e_b2s, ↓e_slcS, ↓e_arrAt, ↓e_ext, ↓e_app, ↓e_copy, ↓e_mv, ↓e_pick, ↓e_new, ↓e_nilc, ↓e_fld, ↓e_idxA, ↓e_bin, ↓e_eqb, ↓e_un, ↓e_conv, ↓e_strS, ↓e_s2b, ↓e_mkfn, ↓e_mksl, ↓e_slcA, ↓e_slcT, ↓e_call, ↓e_callp, ↓e_callv, ↓e_len, ↓e_lenA, ↓e_mx, ↓e_mn, ↓e_mkmap, ↓e_mput, ↓e_mlen, ↓e_mk8, ↓e_capN, ↓e_appZ, ↓u_onInt, ↓u_onBool, ↓u_onOpt0, ↓u_onOpt1, ↓u_binV, ↓u_srcOf, ↓u_srcSl, ↓binI, ↓binS, ↓fillE, ↓evRes, evA, Opd.ev, Sx.get, put, putO, del, dels, frD, memD, pickD, kills, views, newer, rd, rm, upd, splice, keysOf, kvOf, SV.cells?, SV.one, retOf, ↓u_callS, canLW, canV, canC, belowL, apH, apH1, eta, SV.ren, SV.renL, newOwn, targets, rms, Kind.isOwn, ren_bytes, byte_ren, ren_ints, flat_ints, len_ints, List.getElem?_nil, Option.getD_none, Option.getD_some, Nat.sub_zero, Nat.le_refl, take_bytes, map_byte, len_bytes, flat_bytes, Int.toNat_natCast, Nat.mul_one, Int.cast_ofNat_Int]
          rw [hb2, bytes_app1]
          have hc : encTail m f i = flipB (IntKind.u8.wrap (nth8 m (i - 1))) f :: encTail m f (i - 1) := by
            obtain ⟨j, rfl⟩ : ∃ j, i = j + 1 := ⟨i - 1, by omega⟩
            rfl
          rw [hc, ← List.singleton_append, ← List.append_assoc] at hpre
          have hci : ((i - 1 : Nat) : Int) = (i : Int) - 1 := by omega
          exact ⟨by omega, by omega, (i - 1, _), ⟨[(2, 0)], by simp [EntM, compat, apartM, keysBelow, frEnt, geto, eta, idHs, rd, SV.ren, SV.renL, Option.getD_some, Option.getD_none, List.getElem?_cons_zero, List.getElem?_cons_succ, List.getElem?_nil, List.length_cons, List.length_nil, Nat.zero_add, Nat.add_zero, Nat.reduceAdd, Nat.reduceSub, Nat.reduceEqDiff, Nat.reduceLT, Nat.reduceLeDiff, ↓reduceIte, Kind.isOwn, List.take_succ_cons, List.take_zero, List.nil_append, List.cons_append, List.append_nil, List.take_nil, and_self, and_true, true_and, exists_eq_left', Option.some.injEq, Blk.mk.injEq, Kind.own.injEq, List.drop_zero, List.take_length, Nat.le_refl, ne_eq, not_false_eq_true, implies_true, List.forall_mem_cons, List.not_mem_nil, false_imp_iff, Bool.or_false, Bool.false_or, Bool.or_self, Bool.true_or, Bool.or_true, forall_const, reduceCtorEq, List.mem_cons, or_false, forall_eq_or_imp, forall_eq, Nat.succ_ne_self, exists_eq_left, Option.some_inj, byte_ren, one_byte, ren_bytes, len_bytes, ren_ints, len_ints], by simp [hci, EntM, compat, apartM, keysBelow, frEnt, geto, eta, idHs, rd, SV.ren, SV.renL, Option.getD_some, Option.getD_none, List.getElem?_cons_zero, List.getElem?_cons_succ, List.getElem?_nil, List.length_cons, List.length_nil, Nat.zero_add, Nat.add_zero, Nat.reduceAdd, Nat.reduceSub, Nat.reduceEqDiff, Nat.reduceLT, Nat.reduceLeDiff, ↓reduceIte, Kind.isOwn, List.take_succ_cons, List.take_zero, List.nil_append, List.cons_append, List.append_nil, List.take_nil, and_self, and_true, true_and, exists_eq_left', Option.some.injEq, Blk.mk.injEq, Kind.own.injEq, List.drop_zero, List.take_length, Nat.le_refl, ne_eq, not_false_eq_true, implies_true, List.forall_mem_cons, List.not_mem_nil, false_imp_iff, Bool.or_false, Bool.false_or, Bool.or_self, Bool.true_or, Bool.or_true, forall_const, reduceCtorEq, List.mem_cons, or_false, forall_eq_or_imp, forall_eq, Nat.succ_ne_self, exists_eq_left, Option.some_inj, byte_ren, one_byte, ren_bytes, len_bytes, ren_ints, len_ints]⟩, ⟨by omega, hpre⟩, by simp only; omega⟩
    · have g0 : (k : Int) > 0 := by omega
      have w2 : IntKind.i64.wrap ((k : Int) - 1) = ((k - 1 : Nat) : Int) := by rw [w2]; omega
      have w3 : IntKind.i64.wrap (8 * ((k - 1 : Nat) : Int)) = ((8 * (k - 1) : Nat) : Int) := by rw [wrap64_eq (by omega) (by omega)]; omega
      have g1 : (0 : Int) ≤ ((8 * (k - 1) : Nat) : Int) := by omega
      have g2 : ¬ m.fdiv (2 ^ (min (8 * (k - 1)) IntKind.u64.bits)) > 0 := h1
      simp (config := { maxSteps := 1000000 }) only [w2, w3, g0, g1, g2, SV.flatL, SV.flat, Bool.and_true, Bool.and_self, Bool.true_and, beq_self_eq_true, Int.reduceGE, Int.reduceGT, ↓u_callAnd, Blk.mk.injEq, List.cons.injEq, SV.int.injEq, SV.bool.injEq, SV.tup.injEq, SV.agg.injEq, and_self, undef, Int.reduceBNe, Int.reduceBEq, Nat.reduceBNe, Nat.reduceBEq, ↓u_callX, lookF, setv, finO_r, finO_n, finO_x, again_n, again_x, again_r, lookT, eqPat, eqTag, reduceCtorEq, Nat.reduceEqDiff, Nat.reduceAdd, Nat.reduceSub, Nat.reduceMul, Nat.reduceDiv, Nat.reduceLeDiff, Nat.reduceLT, Int.reduceToNat, Int.reduceLT, Int.reduceLE, Int.reduceAdd, Int.reduceSub, Int.reduceMul, Int.reduceNeg, Int.reduceEq, Int.reduceNe, wrap64, false_imp_iff, true_imp_iff, eq_self, decide_true, decide_false, Int.cast_ofNat_Int,  true_and, and_true, false_and, and_false, imp_self, implies_true, List.getElem?_cons_zero, List.getElem?_cons_succ, List.length_cons, List.length_nil, List.append_nil, List.nil_append, List.cons_append, List.take_succ_cons, List.take_zero, List.drop_succ_cons, List.drop_zero, List.take_nil, List.drop_nil, List.reverse_cons, List.reverse_nil, List.map_cons, List.map_nil, Nat.zero_add, Nat.add_zero, frOf, den_nil, den_o0, ↓gd_tt, ↓gd_ff, ↓gd_tf, ↓gd_ft, gd_any, den_o1, kont_app, den_g, setv, Bool.not_true, Bool.not_false, den_skip, den_reg, den_regD, den_regP, den_A, den_regW, den_W, den_bad, evW, baseD, stBlk, touch, clear, untouched, updsW, List.all_cons, List.all_nil, List.contains_cons, List.contains_nil, Bool.not_true, Bool.not_false, Bool.or_false, Bool.or_self, Bool.false_or, Bool.true_or, Bool.or_true, den_seq, den_cond, den_block, den_exit, den_ret, den_b, den_xb, den_xo, den_xc, den_xu, den_rb, den_ro, den_rc, den_ru, den_u, den_loopU, finP_r, finP_n, finP_x, finE_r, finE_n, finE_x, ↓reduceIte, ↓e_box, ↓e_build, ↓e_bslice, ↓e_load, ↓e_store, ↓e_idxS, ↓e_idxV, ↓e_idxT, ↓e_fieldV, ↓e_eqv, ↓e_isNil, ↓e_b2s, ↓e_slcS, ↓e_arrAt, ↓e_ext, ↓e_app, ↓e_copy, ↓e_mv, ↓e_pick, ↓e_new, ↓e_nilc, ↓e_fld, ↓e_idxA, ↓e_bin, ↓e_eqb, ↓e_un, ↓e_conv, ↓e_strS, ↓e_s2b, ↓e_mkfn, ↓e_mksl, ↓e_slcA, ↓e_slcT, ↓e_call, ↓e_callp, ↓e_callv, ↓e_len, ↓e_lenA, ↓e_mx, ↓e_mn, ↓e_mkmap, ↓e_mput, ↓e_mlen, ↓e_mk8, ↓e_capN, ↓e_appZ, ↓u_onInt, ↓u_onBool, ↓u_onOpt0, ↓u_onOpt1, ↓u_binV, ↓u_srcOf, ↓u_srcSl, ↓binI, ↓binS, ↓fillE, ↓evRes, evA, Opd.ev, Sx.get, put, putO, del, dels, frD, memD, pickD, kills, views, newer, rd, rm, upd, splice, keysOf, kvOf, SV.cells?, SV.one, retOf, ↓u_callS, canLW, canV, canC, belowL, apH, apH1, eta, SV.ren, SV.renL, newOwn, targets, rms, Kind.isOwn, ren_bytes, byte_ren, ren_ints, flat_ints, len_ints, List.getElem?_nil, Option.getD_none, Option.getD_some, Nat.sub_zero, Nat.le_refl, take_bytes, map_byte, len_bytes, flat_bytes, Int.toNat_natCast, Nat.mul_one, Int.cast_ofNat_Int]
      refine ⟨k - 1, ⟨[], by simp [EntM, compat, apartM, keysBelow, frEnt, geto, eta, idHs, rd, SV.ren, SV.renL, Option.getD_some, Option.getD_none, List.getElem?_cons_zero, List.getElem?_cons_succ, List.getElem?_nil, List.length_cons, List.length_nil, Nat.zero_add, Nat.add_zero, Nat.reduceAdd, Nat.reduceSub, Nat.reduceEqDiff, Nat.reduceLT, Nat.reduceLeDiff, ↓reduceIte, Kind.isOwn, List.take_succ_cons, List.take_zero, List.nil_append, List.cons_append, List.append_nil, List.take_nil, and_self, and_true, true_and, exists_eq_left', Option.some.injEq, Blk.mk.injEq, Kind.own.injEq, List.drop_zero, List.take_length, Nat.le_refl, ne_eq, not_false_eq_true, implies_true, List.forall_mem_cons, List.not_mem_nil, false_imp_iff, Bool.or_false, Bool.false_or, Bool.or_self, Bool.true_or, Bool.or_true, forall_const, reduceCtorEq, List.mem_cons, or_false, forall_eq_or_imp, forall_eq, Nat.succ_ne_self, exists_eq_left, Option.some_inj], by simp [EntM, compat, apartM, keysBelow, frEnt, geto, eta, idHs, rd, SV.ren, SV.renL, Option.getD_some, Option.getD_none, List.getElem?_cons_zero, List.getElem?_cons_succ, List.getElem?_nil, List.length_cons, List.length_nil, Nat.zero_add, Nat.add_zero, Nat.reduceAdd, Nat.reduceSub, Nat.reduceEqDiff, Nat.reduceLT, Nat.reduceLeDiff, ↓reduceIte, Kind.isOwn, List.take_succ_cons, List.take_zero, List.nil_append, List.cons_append, List.append_nil, List.take_nil, and_self, and_true, true_and, exists_eq_left', Option.some.injEq, Blk.mk.injEq, Kind.own.injEq, List.drop_zero, List.take_length, Nat.le_refl, ne_eq, not_false_eq_true, implies_true, List.forall_mem_cons, List.not_mem_nil, false_imp_iff, Bool.or_false, Bool.false_or, Bool.or_self, Bool.true_or, Bool.or_true, forall_const, reduceCtorEq, List.mem_cons, or_false, forall_eq_or_imp, forall_eq, Nat.succ_ne_self, exists_eq_left, Option.some_inj]⟩, ⟨by omega, ?_⟩, by omega⟩
      rw [← hk]
      obtain ⟨j, rfl⟩ : ∃ j, k = j + 1 := ⟨k - 1, by omega⟩
      simp only [Nat.add_sub_cancel] at h1 ⊢
      rw [topK, if_neg h1]
def gInt : GS
  | [.int .i64 n], [] => some (.slc 0 0 1 (encI n).length none, [(0, ⟨.own 5, bys (encI n)⟩)], 1)
  | _, _ => none
theorem gInt_ok : FunS Tryd.prog tS 34 gInt := by
  intro a0 m0 r m1 n1 h
  unfold gInt at h
  split at h
  · cases h; exact ⟨f34 _, by simp [freshB]⟩
  · cases h
end Go.Proofs.YtkfbkooobfepeaaDoor

/- Package wire: the encodings of lists of integers and of texts; likewise of the reference. -/
namespace Go.Proofs.YtkfbkooobfepeaaDoor
open Go Go.Sx Sf
set_option maxRecDepth 100000
set_option linter.unusedSimpArgs false
set_option linter.unusedVariables false

variable {tS : List (Nat × List SV)}
def tabA : List (FuncId × GS) := [(34, gInt)]
theorem tabA_ok : ∀ x ∈ tabA, FunS Tryd.prog tS x.1 x.2 := by
  intro x hx
  simp only [tabA, List.mem_cons, List.not_mem_nil, or_false] at hx
  rcases hx with rfl
  exact gInt_ok
def encL : List Int → List UInt8
  | [] => []
  | x :: l => encI x ++ encL l
theorem encL_len : ∀ l, (encL l).length ≤ 9 * l.length
  | [] => Nat.le_refl _
  | x :: l => by
    have := encL_len l
    have := encI_len x
    simp only [encL, List.length_append, List.length_cons]; omega
/-- the encoding of a list of integers -/
def encIs (l : List Int) : List UInt8 := encI l.length ++ encL l

theorem f31 (l : List Int) (hl : l.length ≤ 1000) (cap : Option Nat) :
    Fun Tryd.prog tS 31 [.slc 0 0 1 l.length cap] [(0, ⟨.view, ints l⟩)] 1 (.slc 1 0 1 (encIs l).length none) [(1, ⟨.own 5, bys (encIs l)⟩)] 2 := by
  refine fun_any none (callS tabA cF) (callS_ok tabA_ok cF_ok) chk31 (show 1 ≤ 21 by decide) (by decide) ?_
  unfold sf31
  have hL := encL_len l
  have hI := encI_len l.length
  have hT : (encIs l).length ≤ 9 * (l.length + 1) := by unfold encIs; simp; omega
  simp (config := { maxSteps := 1000000 }) only [tabA, gInt, SV.flatL, SV.flat, Bool.and_true, Bool.and_self, Bool.true_and, beq_self_eq_true, Int.reduceGE, Int.reduceGT, ↓u_callAnd, Blk.mk.injEq, List.cons.injEq, SV.int.injEq, SV.bool.injEq, SV.tup.injEq, SV.agg.injEq, and_self, undef, Int.reduceBNe, Int.reduceBEq, Nat.reduceBNe, Nat.reduceBEq, ↓u_callX, lookF, setv, finO_r, finO_n, finO_x, again_n, again_x, again_r, lookT, eqPat, eqTag, reduceCtorEq, Nat.reduceEqDiff, Nat.reduceAdd, Nat.reduceSub, Nat.reduceMul, Nat.reduceDiv, Nat.reduceLeDiff, Nat.reduceLT, Int.reduceToNat, Int.reduceLT, Int.reduceLE, Int.reduceAdd, Int.reduceSub, Int.reduceMul, Int.reduceNeg, Int.reduceEq, Int.reduceNe, wrap64, false_imp_iff, true_imp_iff, eq_self, decide_true, decide_false, Int.cast_ofNat_Int,  true_and, and_true, false_and, and_false, imp_self, implies_true, List.getElem?_cons_zero, List.getElem?_cons_succ, List.length_cons, List.length_nil, List.append_nil, List.nil_append, List.cons_append, List.take_succ_cons, List.take_zero, List.drop_succ_cons, List.drop_zero, List.take_nil, List.drop_nil, List.reverse_cons, List.reverse_nil, List.map_cons, List.map_nil, Nat.zero_add, Nat.add_zero, frOf, den_nil, den_o0, ↓gd_tt, ↓gd_ff, ↓gd_tf, ↓gd_ft, gd_any, den_o1, kont_app, den_g, setv, Bool.not_true, Bool.not_false, den_skip, den_reg, den_regD, den_regP, den_A, den_regW, den_W, den_bad, evW, baseD, stBlk, touch, clear, untouched, updsW, List.all_cons, List.all_nil, List.contains_cons, List.contains_nil, Bool.not_true, Bool.not_false, Bool.or_false, Bool.or_self, Bool.false_or, Bool.true_or, Bool.or_true, den_seq, den_cond, den_block, den_exit, den_ret, den_b, den_xb, den_xo, den_xc, den_xu, den_rb, den_ro, den_rc, den_ru, den_u, den_loopU, finP_r, finP_n, finP_x, finE_r, finE_n, finE_x, ↓reduceIte, ↓e_box, ↓e_build, ↓e_bslice, ↓e_load, ↓e_store, ↓e_idxS, ↓e_idxV, ↓e_idxT, ↓e_fieldV, ↓e_eqv, ↓e_isNil, ↓e_b2s, ↓e_slcS, ↓e_arrAt, ↓e_ext, ↓e_app, ↓e_copy, ↓e_mv, ↓e_pick, ↓e_new, ↓e_nilc, ↓e_fld, ↓e_idxA, ↓e_bin, ↓e_eqb, ↓e_un, ↓e_conv, ↓e_strS, ↓e_s2b, ↓e_mkfn, ↓e_mksl, ↓e_slcA, ↓e_slcT, ↓e_call, ↓e_callp, ↓e_callv, ↓e_len, ↓e_lenA, ↓e_mx, ↓e_mn, ↓e_mkmap, ↓e_mput, ↓e_mlen, ↓e_mk8, ↓e_capN, ↓e_appZ, ↓u_onInt, ↓u_onBool, ↓u_onOpt0, ↓u_onOpt1, ↓u_binV, ↓u_srcOf, ↓u_srcSl, ↓binI, ↓binS, ↓fillE, ↓evRes, evA, Opd.ev, Sx.get, put, putO, del, dels, frD, memD, pickD, kills, views, newer, rd, rm, upd, splice, keysOf, kvOf, SV.cells?, SV.one, retOf, ↓u_callS, canLW, canV, canC, belowL, apH, apH1, eta, SV.ren, SV.renL, newOwn, targets, rms, Kind.isOwn, ren_bytes, byte_ren, ren_ints, flat_ints, len_ints, List.getElem?_nil, Option.getD_none, Option.getD_some, Nat.sub_zero, Nat.le_refl, take_bytes, take_ints, map_byte, len_bytes, flat_bytes, Int.toNat_natCast, Nat.mul_one, Int.cast_ofNat_Int]
  rw [den_loop]
  refine den_inv (callS_ok tabA_ok cF_ok) (σ := Nat × List UInt8) (fun s => [(11, .int .i64 (s.1 : Int)), (10, .int .i64 (l.length : Int)), (9, .slc 0 0 1 l.length cap), (3, .slc 1 0 1 s.2.length none)])
    (fun s => [(1, ⟨.own 5, bys s.2⟩), (0, ⟨.view, ints l⟩)]) (fun _ => 2) (fun s => s.1 ≤ l.length ∧ s.2 ++ encL (l.drop s.1) = encIs l) (fun s => l.length - s.1) (0, encI l.length) ?_ ⟨Nat.zero_le _, rfl⟩ ?_
  · exact ⟨[(0, 0), (1, 0)], by simp [EntM, compat, apartM, keysBelow, frEnt, geto, eta, idHs, rd, SV.ren, SV.renL, Option.getD_some, Option.getD_none, List.getElem?_cons_zero, List.getElem?_cons_succ, List.getElem?_nil, List.length_cons, List.length_nil, Nat.zero_add, Nat.add_zero, Nat.reduceAdd, Nat.reduceSub, Nat.reduceEqDiff, Nat.reduceLT, Nat.reduceLeDiff, ↓reduceIte, Kind.isOwn, List.take_succ_cons, List.take_zero, List.nil_append, List.cons_append, List.append_nil, List.take_nil, and_self, and_true, true_and, exists_eq_left', Option.some.injEq, Blk.mk.injEq, Kind.own.injEq, List.drop_zero, List.take_length, Nat.le_refl, ne_eq, not_false_eq_true, implies_true, List.forall_mem_cons, List.not_mem_nil, false_imp_iff, Bool.or_false, Bool.false_or, Bool.or_self, Bool.true_or, Bool.or_true, forall_const, reduceCtorEq, List.mem_cons, or_false, forall_eq_or_imp, forall_eq, Nat.succ_ne_self, exists_eq_left, Option.some_inj, byte_ren, one_byte, ren_bytes, len_bytes, take_bytes, take_ints, ren_ints, len_ints], by simp [EntM, compat, apartM, keysBelow, frEnt, geto, eta, idHs, rd, SV.ren, SV.renL, Option.getD_some, Option.getD_none, List.getElem?_cons_zero, List.getElem?_cons_succ, List.getElem?_nil, List.length_cons, List.length_nil, Nat.zero_add, Nat.add_zero, Nat.reduceAdd, Nat.reduceSub, Nat.reduceEqDiff, Nat.reduceLT, Nat.reduceLeDiff, ↓reduceIte, Kind.isOwn, List.take_succ_cons, List.take_zero, List.nil_append, List.cons_append, List.append_nil, List.take_nil, and_self, and_true, true_and, exists_eq_left', Option.some.injEq, Blk.mk.injEq, Kind.own.injEq, List.drop_zero, List.take_length, Nat.le_refl, ne_eq, not_false_eq_true, implies_true, List.forall_mem_cons, List.not_mem_nil, false_imp_iff, Bool.or_false, Bool.false_or, Bool.or_self, Bool.true_or, Bool.or_true, forall_const, reduceCtorEq, List.mem_cons, or_false, forall_eq_or_imp, forall_eq, Nat.succ_ne_self, exists_eq_left, Option.some_inj, byte_ren, one_byte, ren_bytes, len_bytes, take_bytes, take_ints, ren_ints, len_ints]⟩
  · rintro ⟨i, pre⟩ ⟨hi, hpre⟩
    simp only at hi hpre
    have hlen := congrArg List.length hpre
    simp only [List.length_append] at hlen
    by_cases h : i < l.length
    · have c1 : (i : Int) < (l.length : Int) := by omega
      have c2 : (0 : Int) ≤ (i : Int) := by omega
      have wi : IntKind.i64.wrap ((i : Int) + 1) = ((i + 1 : Nat) : Int) := by rw [wrap64_eq (by omega) (by omega)]; omega
      obtain ⟨x, hx⟩ : ∃ x, l[i]? = some x := ⟨_, List.getElem?_eq_getElem h⟩
      have hd : l.drop i = x :: l.drop (i + 1) := by
        rw [List.drop_eq_getElem_cons h]
        rw [List.getElem?_eq_getElem h] at hx; cases hx; rfl
      rw [hd] at hpre
      simp only [encL, ← List.append_assoc] at hpre
      have hlen2 := congrArg List.length hpre
      simp only [List.length_append] at hlen2
      have gx := get_ints hx
      simp (config := { maxSteps := 1000000 }) only [tabA, gInt, h, c1, c2, wi, gx, SV.flatL, SV.flat, Bool.and_true, Bool.and_self, Bool.true_and, beq_self_eq_true, Int.reduceGE, Int.reduceGT, ↓u_callAnd, Blk.mk.injEq, List.cons.injEq, SV.int.injEq, SV.bool.injEq, SV.tup.injEq, SV.agg.injEq, and_self, undef, Int.reduceBNe, Int.reduceBEq, Nat.reduceBNe, Nat.reduceBEq, ↓u_callX, lookF, setv, finO_r, finO_n, finO_x, again_n, again_x, again_r, lookT, eqPat, eqTag, reduceCtorEq, Nat.reduceEqDiff, Nat.reduceAdd, Nat.reduceSub, Nat.reduceMul, Nat.reduceDiv, Nat.reduceLeDiff, Nat.reduceLT, Int.reduceToNat, Int.reduceLT, Int.reduceLE, Int.reduceAdd, Int.reduceSub, Int.reduceMul, Int.reduceNeg, Int.reduceEq, Int.reduceNe, wrap64, false_imp_iff, true_imp_iff, eq_self, decide_true, decide_false, Int.cast_ofNat_Int,  true_and, and_true, false_and, and_false, imp_self, implies_true, List.getElem?_cons_zero, List.getElem?_cons_succ, List.length_cons, List.length_nil, List.append_nil, List.nil_append, List.cons_append, List.take_succ_cons, List.take_zero, List.drop_succ_cons, List.drop_zero, List.take_nil, List.drop_nil, List.reverse_cons, List.reverse_nil, List.map_cons, List.map_nil, Nat.zero_add, Nat.add_zero, frOf, den_nil, den_o0, ↓gd_tt, ↓gd_ff, ↓gd_tf, ↓gd_ft, gd_any, den_o1, kont_app, den_g, setv, Bool.not_true, Bool.not_false, den_skip, den_reg, den_regD, den_regP, den_A, den_regW, den_W, den_bad, evW, baseD, stBlk, touch, clear, untouched, updsW, List.all_cons, List.all_nil, List.contains_cons, List.contains_nil, Bool.not_true, Bool.not_false, Bool.or_false, Bool.or_self, Bool.false_or, Bool.true_or, Bool.or_true, den_seq, den_cond, den_block, den_exit, den_ret, den_b, den_xb, den_xo, den_xc, den_xu, den_rb, den_ro, den_rc, den_ru, den_u, den_loopU, finP_r, finP_n, finP_x, finE_r, finE_n, finE_x, ↓reduceIte, ↓e_box, ↓e_build, ↓e_bslice, ↓e_load, ↓e_store, ↓e_idxS, ↓e_idxV, ↓e_idxT, ↓e_fieldV, ↓e_eqv, ↓e_isNil, ↓e_b2s, ↓e_slcS, ↓e_arrAt, ↓e_ext, ↓e_app, ↓e_copy, ↓e_mv, ↓e_pick, ↓e_new, ↓e_nilc, ↓e_fld, ↓e_idxA, ↓e_bin, ↓e_eqb, ↓e_un, ↓e_conv, ↓e_strS, ↓e_s2b, ↓e_mkfn, ↓e_mksl, ↓e_slcA, ↓e_slcT, ↓e_call, ↓e_callp, ↓e_callv, ↓e_len, ↓e_lenA, ↓e_mx, ↓e_mn, ↓e_mkmap, ↓e_mput, ↓e_mlen, ↓e_mk8, ↓e_capN, ↓e_appZ, ↓u_onInt, ↓u_onBool, ↓u_onOpt0, ↓u_onOpt1, ↓u_binV, ↓u_srcOf, ↓u_srcSl, ↓binI, ↓binS, ↓fillE, ↓evRes, evA, Opd.ev, Sx.get, put, putO, del, dels, frD, memD, pickD, kills, views, newer, rd, rm, upd, splice, keysOf, kvOf, SV.cells?, SV.one, retOf, ↓u_callS, canLW, canV, canC, belowL, apH, apH1, eta, SV.ren, SV.renL, newOwn, targets, rms, Kind.isOwn, ren_bytes, byte_ren, ren_ints, flat_ints, len_ints, List.getElem?_nil, Option.getD_none, Option.getD_some, Nat.sub_zero, Nat.le_refl, take_bytes, take_ints, map_byte, len_bytes, flat_bytes, Int.toNat_natCast, Nat.mul_one, Int.cast_ofNat_Int]
      rw [bytes_app]
      exact ⟨by omega, by omega, (i + 1, _), ⟨[(0, 0), (3, 0)], by simp [EntM, compat, apartM, keysBelow, frEnt, geto, eta, idHs, rd, SV.ren, SV.renL, Option.getD_some, Option.getD_none, List.getElem?_cons_zero, List.getElem?_cons_succ, List.getElem?_nil, List.length_cons, List.length_nil, Nat.zero_add, Nat.add_zero, Nat.reduceAdd, Nat.reduceSub, Nat.reduceEqDiff, Nat.reduceLT, Nat.reduceLeDiff, ↓reduceIte, Kind.isOwn, List.take_succ_cons, List.take_zero, List.nil_append, List.cons_append, List.append_nil, List.take_nil, and_self, and_true, true_and, exists_eq_left', Option.some.injEq, Blk.mk.injEq, Kind.own.injEq, List.drop_zero, List.take_length, Nat.le_refl, ne_eq, not_false_eq_true, implies_true, List.forall_mem_cons, List.not_mem_nil, false_imp_iff, Bool.or_false, Bool.false_or, Bool.or_self, Bool.true_or, Bool.or_true, forall_const, reduceCtorEq, List.mem_cons, or_false, forall_eq_or_imp, forall_eq, Nat.succ_ne_self, exists_eq_left, Option.some_inj, byte_ren, one_byte, ren_bytes, len_bytes, take_bytes, take_ints, ren_ints, len_ints], by simp [EntM, compat, apartM, keysBelow, frEnt, geto, eta, idHs, rd, SV.ren, SV.renL, Option.getD_some, Option.getD_none, List.getElem?_cons_zero, List.getElem?_cons_succ, List.getElem?_nil, List.length_cons, List.length_nil, Nat.zero_add, Nat.add_zero, Nat.reduceAdd, Nat.reduceSub, Nat.reduceEqDiff, Nat.reduceLT, Nat.reduceLeDiff, ↓reduceIte, Kind.isOwn, List.take_succ_cons, List.take_zero, List.nil_append, List.cons_append, List.append_nil, List.take_nil, and_self, and_true, true_and, exists_eq_left', Option.some.injEq, Blk.mk.injEq, Kind.own.injEq, List.drop_zero, List.take_length, Nat.le_refl, ne_eq, not_false_eq_true, implies_true, List.forall_mem_cons, List.not_mem_nil, false_imp_iff, Bool.or_false, Bool.false_or, Bool.or_self, Bool.true_or, Bool.or_true, forall_const, reduceCtorEq, List.mem_cons, or_false, forall_eq_or_imp, forall_eq, Nat.succ_ne_self, exists_eq_left, Option.some_inj, byte_ren, one_byte, ren_bytes, len_bytes, take_bytes, take_ints, ren_ints, len_ints]⟩, ⟨by simp only; omega, hpre⟩, by simp only; omega⟩
    · obtain rfl : i = l.length := by omega
      simp only [List.drop_length, encL, List.append_nil] at hpre
      subst hpre
      have c1 : ¬ (l.length : Int) < (l.length : Int) := by omega
      simp (config := { maxSteps := 1000000 }) only [tabA, gInt, c1, SV.flatL, SV.flat, Bool.and_true, Bool.and_self, Bool.true_and, beq_self_eq_true, Int.reduceGE, Int.reduceGT, ↓u_callAnd, Blk.mk.injEq, List.cons.injEq, SV.int.injEq, SV.bool.injEq, SV.tup.injEq, SV.agg.injEq, and_self, undef, Int.reduceBNe, Int.reduceBEq, Nat.reduceBNe, Nat.reduceBEq, ↓u_callX, lookF, setv, finO_r, finO_n, finO_x, again_n, again_x, again_r, lookT, eqPat, eqTag, reduceCtorEq, Nat.reduceEqDiff, Nat.reduceAdd, Nat.reduceSub, Nat.reduceMul, Nat.reduceDiv, Nat.reduceLeDiff, Nat.reduceLT, Int.reduceToNat, Int.reduceLT, Int.reduceLE, Int.reduceAdd, Int.reduceSub, Int.reduceMul, Int.reduceNeg, Int.reduceEq, Int.reduceNe, wrap64, false_imp_iff, true_imp_iff, eq_self, decide_true, decide_false, Int.cast_ofNat_Int,  true_and, and_true, false_and, and_false, imp_self, implies_true, List.getElem?_cons_zero, List.getElem?_cons_succ, List.length_cons, List.length_nil, List.append_nil, List.nil_append, List.cons_append, List.take_succ_cons, List.take_zero, List.drop_succ_cons, List.drop_zero, List.take_nil, List.drop_nil, List.reverse_cons, List.reverse_nil, List.map_cons, List.map_nil, Nat.zero_add, Nat.add_zero, frOf, den_nil, den_o0, ↓gd_tt, ↓gd_ff, ↓gd_tf, ↓gd_ft, gd_any, den_o1, kont_app, den_g, setv, Bool.not_true, Bool.not_false, den_skip, den_reg, den_regD, den_regP, den_A, den_regW, den_W, den_bad, evW, baseD, stBlk, touch, clear, untouched, updsW, List.all_cons, List.all_nil, List.contains_cons, List.contains_nil, Bool.not_true, Bool.not_false, Bool.or_false, Bool.or_self, Bool.false_or, Bool.true_or, Bool.or_true, den_seq, den_cond, den_block, den_exit, den_ret, den_b, den_xb, den_xo, den_xc, den_xu, den_rb, den_ro, den_rc, den_ru, den_u, den_loopU, finP_r, finP_n, finP_x, finE_r, finE_n, finE_x, ↓reduceIte, ↓e_box, ↓e_build, ↓e_bslice, ↓e_load, ↓e_store, ↓e_idxS, ↓e_idxV, ↓e_idxT, ↓e_fieldV, ↓e_eqv, ↓e_isNil, ↓e_b2s, ↓e_slcS, ↓e_arrAt, ↓e_ext, ↓e_app, ↓e_copy, ↓e_mv, ↓e_pick, ↓e_new, ↓e_nilc, ↓e_fld, ↓e_idxA, ↓e_bin, ↓e_eqb, ↓e_un, ↓e_conv, ↓e_strS, ↓e_s2b, ↓e_mkfn, ↓e_mksl, ↓e_slcA, ↓e_slcT, ↓e_call, ↓e_callp, ↓e_callv, ↓e_len, ↓e_lenA, ↓e_mx, ↓e_mn, ↓e_mkmap, ↓e_mput, ↓e_mlen, ↓e_mk8, ↓e_capN, ↓e_appZ, ↓u_onInt, ↓u_onBool, ↓u_onOpt0, ↓u_onOpt1, ↓u_binV, ↓u_srcOf, ↓u_srcSl, ↓binI, ↓binS, ↓fillE, ↓evRes, evA, Opd.ev, Sx.get, put, putO, del, dels, frD, memD, pickD, kills, views, newer, rd, rm, upd, splice, keysOf, kvOf, SV.cells?, SV.one, retOf, ↓u_callS, canLW, canV, canC, belowL, apH, apH1, eta, SV.ren, SV.renL, newOwn, targets, rms, Kind.isOwn, ren_bytes, byte_ren, ren_ints, flat_ints, len_ints, List.getElem?_nil, Option.getD_none, Option.getD_some, Nat.sub_zero, Nat.le_refl, take_bytes, take_ints, map_byte, len_bytes, flat_bytes, Int.toNat_natCast, Nat.mul_one, Int.cast_ofNat_Int]
      exact ⟨[(0, 0), (1, 0)], by simp [EntM, compat, apartM, keysBelow, frEnt, geto, eta, idHs, rd, SV.ren, SV.renL, Option.getD_some, Option.getD_none, List.getElem?_cons_zero, List.getElem?_cons_succ, List.getElem?_nil, List.length_cons, List.length_nil, Nat.zero_add, Nat.add_zero, Nat.reduceAdd, Nat.reduceSub, Nat.reduceEqDiff, Nat.reduceLT, Nat.reduceLeDiff, ↓reduceIte, Kind.isOwn, List.take_succ_cons, List.take_zero, List.nil_append, List.cons_append, List.append_nil, List.take_nil, and_self, and_true, true_and, exists_eq_left', Option.some.injEq, Blk.mk.injEq, Kind.own.injEq, List.drop_zero, List.take_length, Nat.le_refl, ne_eq, not_false_eq_true, implies_true, List.forall_mem_cons, List.not_mem_nil, false_imp_iff, Bool.or_false, Bool.false_or, Bool.or_self, Bool.true_or, Bool.or_true, forall_const, reduceCtorEq, List.mem_cons, or_false, forall_eq_or_imp, forall_eq, Nat.succ_ne_self, exists_eq_left, Option.some_inj, byte_ren, one_byte, ren_bytes, len_bytes, take_bytes, take_ints, ren_ints, len_ints], by simp [EntM, compat, apartM, keysBelow, frEnt, geto, eta, idHs, rd, SV.ren, SV.renL, Option.getD_some, Option.getD_none, List.getElem?_cons_zero, List.getElem?_cons_succ, List.getElem?_nil, List.length_cons, List.length_nil, Nat.zero_add, Nat.add_zero, Nat.reduceAdd, Nat.reduceSub, Nat.reduceEqDiff, Nat.reduceLT, Nat.reduceLeDiff, ↓reduceIte, Kind.isOwn, List.take_succ_cons, List.take_zero, List.nil_append, List.cons_append, List.append_nil, List.take_nil, and_self, and_true, true_and, exists_eq_left', Option.some.injEq, Blk.mk.injEq, Kind.own.injEq, List.drop_zero, List.take_length, Nat.le_refl, ne_eq, not_false_eq_true, implies_true, List.forall_mem_cons, List.not_mem_nil, false_imp_iff, Bool.or_false, Bool.false_or, Bool.or_self, Bool.true_or, Bool.or_true, forall_const, reduceCtorEq, List.mem_cons, or_false, forall_eq_or_imp, forall_eq, Nat.succ_ne_self, exists_eq_left, Option.some_inj, byte_ren, one_byte, ren_bytes, len_bytes, take_bytes, take_ints, ren_ints, len_ints]⟩

def gInts : GS
  | [.slc 0 0 1 len cap], [(0, ⟨.view, cells⟩)] => match unI cells with
    | some l => if len = l.length then if l.length ≤ 1000 then some (.slc 1 0 1 (encIs l).length none, [(1, ⟨.own 5, bys (encIs l)⟩)], 2) else none else none
    | none => none
  | _, _ => none
theorem gInts_ok : FunS Tryd.prog tS 31 gInts := by
  intro a0 m0 r m1 n1 h
  unfold gInts at h
  split at h
  · split at h
    · rename_i l hl
      split at h
      · split at h
        · rename_i he h1
          cases h
          subst he
          rw [unI_some hl]
          exact ⟨f31 l h1 _, by simp [freshB]⟩
        · cases h
      · cases h
    · cases h
  · cases h

/-- the encoding of a text -/
def encS (s : List UInt8) : List UInt8 := encI s.length ++ s
theorem f33 (s : List UInt8) (hs : s.length ≤ 2 ^ 39) : Fun Tryd.prog tS 33 [.str s] [] 0 (.slc 0 0 1 (encS s).length none) [(0, ⟨.own 5, bys (encS s)⟩)] 1 := by
  refine fun_any none (callS tabA cF) (callS_ok tabA_ok cF_ok) chk33 (show 1 ≤ 8 by decide) (by decide) ?_
  unfold sf33
  have hI := encI_len s.length
  simp (config := { maxSteps := 1000000 }) only [tabA, gInt, SV.flatL, SV.flat, Bool.and_true, Bool.and_self, Bool.true_and, beq_self_eq_true, Int.reduceGE, Int.reduceGT, ↓u_callAnd, Blk.mk.injEq, List.cons.injEq, SV.int.injEq, SV.bool.injEq, SV.tup.injEq, SV.agg.injEq, and_self, undef, Int.reduceBNe, Int.reduceBEq, Nat.reduceBNe, Nat.reduceBEq, ↓u_callX, lookF, setv, finO_r, finO_n, finO_x, again_n, again_x, again_r, lookT, eqPat, eqTag, reduceCtorEq, Nat.reduceEqDiff, Nat.reduceAdd, Nat.reduceSub, Nat.reduceMul, Nat.reduceDiv, Nat.reduceLeDiff, Nat.reduceLT, Int.reduceToNat, Int.reduceLT, Int.reduceLE, Int.reduceAdd, Int.reduceSub, Int.reduceMul, Int.reduceNeg, Int.reduceEq, Int.reduceNe, wrap64, false_imp_iff, true_imp_iff, eq_self, decide_true, decide_false, Int.cast_ofNat_Int,  true_and, and_true, false_and, and_false, imp_self, implies_true, List.getElem?_cons_zero, List.getElem?_cons_succ, List.length_cons, List.length_nil, List.append_nil, List.nil_append, List.cons_append, List.take_succ_cons, List.take_zero, List.drop_succ_cons, List.drop_zero, List.take_nil, List.drop_nil, List.reverse_cons, List.reverse_nil, List.map_cons, List.map_nil, Nat.zero_add, Nat.add_zero, frOf, den_nil, den_o0, ↓gd_tt, ↓gd_ff, ↓gd_tf, ↓gd_ft, gd_any, den_o1, kont_app, den_g, setv, Bool.not_true, Bool.not_false, den_skip, den_reg, den_regD, den_regP, den_A, den_regW, den_W, den_bad, evW, baseD, stBlk, touch, clear, untouched, updsW, List.all_cons, List.all_nil, List.contains_cons, List.contains_nil, Bool.not_true, Bool.not_false, Bool.or_false, Bool.or_self, Bool.false_or, Bool.true_or, Bool.or_true, den_seq, den_cond, den_block, den_exit, den_ret, den_b, den_xb, den_xo, den_xc, den_xu, den_rb, den_ro, den_rc, den_ru, den_u, den_loopU, finP_r, finP_n, finP_x, finE_r, finE_n, finE_x, ↓reduceIte, ↓e_box, ↓e_build, ↓e_bslice, ↓e_load, ↓e_store, ↓e_idxS, ↓e_idxV, ↓e_idxT, ↓e_fieldV, ↓e_eqv, ↓e_isNil, ↓e_b2s, ↓e_slcS, ↓e_arrAt, ↓e_ext, ↓e_app, ↓e_copy, ↓e_mv, ↓e_pick, ↓e_new, ↓e_nilc, ↓e_fld, ↓e_idxA, ↓e_bin, ↓e_eqb, ↓e_un, ↓e_conv, ↓e_strS, ↓e_s2b, ↓e_mkfn, ↓e_mksl, ↓e_slcA, ↓e_slcT, ↓e_call, ↓e_callp, ↓e_callv, ↓e_len, ↓e_lenA, ↓e_mx, ↓e_mn, ↓e_mkmap, ↓e_mput, ↓e_mlen, ↓e_mk8, ↓e_capN, ↓e_appZ, ↓u_onInt, ↓u_onBool, ↓u_onOpt0, ↓u_onOpt1, ↓u_binV, ↓u_srcOf, ↓u_srcSl, ↓binI, ↓binS, ↓fillE, ↓evRes, evA, Opd.ev, Sx.get, put, putO, del, dels, frD, memD, pickD, kills, views, newer, rd, rm, upd, splice, keysOf, kvOf, SV.cells?, SV.one, retOf, ↓u_callS, canLW, canV, canC, belowL, apH, apH1, eta, SV.ren, SV.renL, newOwn, targets, rms, Kind.isOwn, ren_bytes, byte_ren, ren_ints, flat_ints, len_ints, List.getElem?_nil, Option.getD_none, Option.getD_some, Nat.sub_zero, Nat.le_refl, take_bytes, take_ints, map_byte, len_bytes, flat_bytes, Int.toNat_natCast, Nat.mul_one, Int.cast_ofNat_Int]
  exact ⟨by omega, by omega, [(1, 0)], by simp [encS, bytes_app, EntM, compat, apartM, keysBelow, frEnt, geto, eta, idHs, rd, SV.ren, SV.renL, Option.getD_some, Option.getD_none, List.getElem?_cons_zero, List.getElem?_cons_succ, List.getElem?_nil, List.length_cons, List.length_nil, Nat.zero_add, Nat.add_zero, Nat.reduceAdd, Nat.reduceSub, Nat.reduceEqDiff, Nat.reduceLT, Nat.reduceLeDiff, ↓reduceIte, Kind.isOwn, List.take_succ_cons, List.take_zero, List.nil_append, List.cons_append, List.append_nil, List.take_nil, and_self, and_true, true_and, exists_eq_left', Option.some.injEq, Blk.mk.injEq, Kind.own.injEq, List.drop_zero, List.take_length, Nat.le_refl, ne_eq, not_false_eq_true, implies_true, List.forall_mem_cons, List.not_mem_nil, false_imp_iff, Bool.or_false, Bool.false_or, Bool.or_self, Bool.true_or, Bool.or_true, forall_const, reduceCtorEq, List.mem_cons, or_false, forall_eq_or_imp, forall_eq, Nat.succ_ne_self, exists_eq_left, Option.some_inj, byte_ren, one_byte, ren_bytes, len_bytes, take_bytes, take_ints, ren_ints, len_ints], by simp [encS, EntM, compat, apartM, keysBelow, frEnt, geto, eta, idHs, rd, SV.ren, SV.renL, Option.getD_some, Option.getD_none, List.getElem?_cons_zero, List.getElem?_cons_succ, List.getElem?_nil, List.length_cons, List.length_nil, Nat.zero_add, Nat.add_zero, Nat.reduceAdd, Nat.reduceSub, Nat.reduceEqDiff, Nat.reduceLT, Nat.reduceLeDiff, ↓reduceIte, Kind.isOwn, List.take_succ_cons, List.take_zero, List.nil_append, List.cons_append, List.append_nil, List.take_nil, and_self, and_true, true_and, exists_eq_left', Option.some.injEq, Blk.mk.injEq, Kind.own.injEq, List.drop_zero, List.take_length, Nat.le_refl, ne_eq, not_false_eq_true, implies_true, List.forall_mem_cons, List.not_mem_nil, false_imp_iff, Bool.or_false, Bool.false_or, Bool.or_self, Bool.true_or, Bool.or_true, forall_const, reduceCtorEq, List.mem_cons, or_false, forall_eq_or_imp, forall_eq, Nat.succ_ne_self, exists_eq_left, Option.some_inj, byte_ren, one_byte, ren_bytes, len_bytes, take_bytes, take_ints, ren_ints, len_ints]⟩
def gBytes : GS
  | [.str s], [] => if s.length ≤ 2 ^ 39 then some (.slc 0 0 1 (encS s).length none, [(0, ⟨.own 5, bys (encS s)⟩)], 1) else none
  | _, _ => none
theorem gBytes_ok : FunS Tryd.prog tS 33 gBytes := by
  intro a0 m0 r m1 n1 h
  unfold gBytes at h
  split at h
  · split at h
    · cases h
      exact ⟨f33 _ (by assumption), by simp [freshB]⟩
    · cases h
  · cases h
end Go.Proofs.YtkfbkooobfepeaaDoor

/- The reference's encoding of an integer. -/
namespace Go.Proofs.YtkfbkooobfepeaaDoor
open Go Go.Sx Sf
set_option maxRecDepth 100000
set_option linter.unusedSimpArgs false
set_option linter.unusedVariables false

variable {tS : List (Nat × List SV)}
theorem wrap64_le {x : Int} (h : 0 ≤ x) : IntKind.i64.wrap x ≤ x ∧ IntKind.i64.wrap x ≤ 9223372036854775807 := by
  simp only [IntKind.wrap, IntKind.bits, IntKind.signed]
  simp
  omega
def nxtR (m : Int) : Int := IntKind.i64.wrap (m.tdiv 256)
theorem nxtR_lt {m : Int} (h : m > 0) : (nxtR m).toNat < m.toNat ∧ nxtR m ≤ 9223372036854775807 := by
  have h1 : 0 ≤ m.tdiv 256 := Int.tdiv_nonneg (by omega) (by omega)
  have h2 : m.tdiv 256 < m := by rw [Int.tdiv_eq_ediv_of_nonneg (by omega)]; omega
  have := wrap64_le h1
  unfold nxtR
  omega
/-- the digits of an integer, the last one first -/
def digs : Nat → Int → List UInt8
  | 0, _ => []
  | f + 1, m => if m > 0 then wrapB (m.tmod 256) :: digs f (nxtR m) else []
theorem digs_fuel : ∀ (f : Nat) (m : Int), m.toNat ≤ f → digs f m = digs m.toNat m
  | 0, m, h => by
    have : m.toNat = 0 := by omega
    rw [this]
  | f + 1, m, h => by
    by_cases hm : m > 0
    · have h1 := nxtR_lt hm
      obtain ⟨j, hj⟩ : ∃ j, m.toNat = j + 1 := ⟨m.toNat - 1, by omega⟩
      rw [hj]
      simp only [digs, hm, if_true]
      rw [digs_fuel f (nxtR m) (by omega), digs_fuel j (nxtR m) (by omega)]
    · have : m.toNat = 0 := by omega
      rw [this]
      simp only [digs, hm, if_false]
termination_by f => f
def dig (m : Int) : List UInt8 := digs m.toNat m
theorem dig_pos {m : Int} (h : m > 0) : dig m = wrapB (m.tmod 256) :: dig (nxtR m) := by
  unfold dig
  obtain ⟨j, hj⟩ : ∃ j, m.toNat = j + 1 := ⟨m.toNat - 1, by omega⟩
  rw [hj]
  simp only [digs, h, if_true]
  rw [digs_fuel j _ (by have := nxtR_lt h; omega)]
theorem dig_neg {m : Int} (h : ¬ m > 0) : dig m = [] := by
  unfold dig
  have : m.toNat = 0 := by omega
  rw [this]; rfl
theorem dig_len : ∀ (j : Nat) (m : Int), m < 256 ^ j → (dig m).length ≤ j
  | 0, m, h => by rw [dig_neg (by simp at h; omega)]; simp
  | j + 1, m, h => by
    by_cases hm : m > 0
    · rw [dig_pos hm]
      have h1 : 0 ≤ m.tdiv 256 := Int.tdiv_nonneg (by omega) (by omega)
      have h2 : m.tdiv 256 < 256 ^ j := by
        rw [Int.tdiv_eq_ediv_of_nonneg (by omega)]
        rw [Int.pow_succ] at h
        omega
      have := (wrap64_le h1).1
      have := dig_len j (nxtR m) (by unfold nxtR; omega)
      simp only [List.length_cons]; omega
    · rw [dig_neg hm]; simp
theorem dig_len9 (m : Int) : (dig m).length ≤ 9 := by
  by_cases hm : m > 0
  · rw [dig_pos hm]
    have := dig_len 8 (nxtR m) (by have := nxtR_lt hm; have : (256 : Int) ^ 8 = 18446744073709551616 := by decide
                                   omega)
    simp only [List.length_cons]; omega
  · rw [dig_neg hm]; simp

def magR (n : Int) : Int := if n < 0 then IntKind.i64.wrap (-1 - n) else n
def hdR (n : Int) : UInt8 := if n ≥ 0 then wrapB (IntKind.i64.wrap (128 + ((dig (magR n)).length : Int))) else wrapB (IntKind.i64.wrap (127 - ((dig (magR n)).length : Int)))
def turnR (n : Int) (d : UInt8) : UInt8 := if n < 0 then wrapB (255 - (d.toNat : Int)) else d
/-- the encoding of an integer by the reference -/
def encR (n : Int) : List UInt8 := hdR n :: (dig (magR n)).reverse.map (turnR n)
theorem encR_len (n : Int) : (encR n).length ≤ 10 := by
  have := dig_len9 (magR n)
  simp [encR]; omega

set_option maxHeartbeats 4000000 in
theorem f38 (n : Int) : Fun Tryd.prog tS 38 [.int .i64 n] [] 0 (.slc 0 0 1 (encR n).length none) [(0, ⟨.own 5, bys (encR n)⟩)] 1 := by
  refine fun_any none cF cF_ok chk38 (show 1 ≤ 59 by decide) (Nat.zero_le _) ?_
  unfold sf38
  have hlen := encR_len n
  have hd9 := dig_len9 (magR n)
  have key : (IntKind.i64.wrap (-1 - n) = magR n ∧ n < 0) ∨ (magR n = n ∧ ¬ n < 0) := by
    unfold magR
    by_cases hn : n < 0
    · left; rw [if_pos hn]; exact ⟨rfl, hn⟩
    · right; rw [if_neg hn]; exact ⟨rfl, hn⟩
  rcases key with ⟨k1, hn⟩ | ⟨k1, hn⟩
  all_goals
    simp (config := { maxSteps := 1000000 }) only [hn, SV.flatL, SV.flat, Bool.and_true, Bool.and_self, Bool.true_and, beq_self_eq_true, Int.reduceGE, Int.reduceGT, ↓u_callAnd, Blk.mk.injEq, List.cons.injEq, SV.int.injEq, SV.bool.injEq, SV.tup.injEq, SV.agg.injEq, and_self, undef, Int.reduceBNe, Int.reduceBEq, Nat.reduceBNe, Nat.reduceBEq, ↓u_callX, lookF, setv, finO_r, finO_n, finO_x, again_n, again_x, again_r, lookT, eqPat, eqTag, reduceCtorEq, Nat.reduceEqDiff, Nat.reduceAdd, Nat.reduceSub, Nat.reduceMul, Nat.reduceDiv, Nat.reduceLeDiff, Nat.reduceLT, Int.reduceToNat, Int.reduceLT, Int.reduceLE, Int.reduceAdd, Int.reduceSub, Int.reduceMul, Int.reduceNeg, Int.reduceEq, Int.reduceNe, wrap64, false_imp_iff, true_imp_iff, eq_self, decide_true, decide_false, Int.cast_ofNat_Int,  true_and, and_true, false_and, and_false, imp_self, implies_true, List.getElem?_cons_zero, List.getElem?_cons_succ, List.length_cons, List.length_nil, List.append_nil, List.nil_append, List.cons_append, List.take_succ_cons, List.take_zero, List.drop_succ_cons, List.drop_zero, List.take_nil, List.drop_nil, List.reverse_cons, List.reverse_nil, List.map_cons, List.map_nil, Nat.zero_add, Nat.add_zero, frOf, den_nil, den_o0, ↓gd_tt, ↓gd_ff, ↓gd_tf, ↓gd_ft, gd_any, den_o1, kont_app, den_g, setv, Bool.not_true, Bool.not_false, den_skip, den_reg, den_regD, den_regP, den_A, den_regW, den_W, den_bad, evW, baseD, stBlk, touch, clear, untouched, updsW, List.all_cons, List.all_nil, List.contains_cons, List.contains_nil, Bool.not_true, Bool.not_false, Bool.or_false, Bool.or_self, Bool.false_or, Bool.true_or, Bool.or_true, den_seq, den_cond, den_block, den_exit, den_ret, den_b, den_xb, den_xo, den_xc, den_xu, den_rb, den_ro, den_rc, den_ru, den_u, den_loopU, finP_r, finP_n, finP_x, finE_r, finE_n, finE_x, ↓reduceIte, ↓e_box, ↓e_build, ↓e_bslice, ↓e_load, ↓e_store, ↓e_idxS, ↓e_idxV, ↓e_idxT, ↓e_fieldV, ↓e_eqv, ↓e_isNil, ↓e_b2s, ↓e_slcS, ↓e_arrAt, ↓e_ext, ↓e_app, ↓e_copy, ↓e_mv, ↓e_pick, ↓e_new, ↓e_nilc, ↓e_fld, ↓e_idxA, ↓e_bin, ↓e_eqb, ↓e_un, ↓e_conv, ↓e_strS, ↓e_s2b, ↓e_mkfn, ↓e_mksl, ↓e_slcA, ↓e_slcT, ↓e_call, ↓e_callp, ↓e_callv, ↓e_len, ↓e_lenA, ↓e_mx, ↓e_mn, ↓e_mkmap, ↓e_mput, ↓e_mlen, ↓e_mk8, ↓e_capN, ↓e_appZ, ↓u_onInt, ↓u_onBool, ↓u_onOpt0, ↓u_onOpt1, ↓u_binV, ↓u_srcOf, ↓u_srcSl, ↓binI, ↓binS, ↓fillE, ↓evRes, evA, Opd.ev, Sx.get, put, putO, del, dels, frD, memD, pickD, kills, views, newer, rd, rm, upd, splice, keysOf, kvOf, SV.cells?, SV.one, retOf, ↓u_callS, canLW, canV, canC, belowL, apH, apH1, eta, SV.ren, SV.renL, newOwn, targets, rms, Kind.isOwn, ren_bytes, byte_ren, ren_ints, flat_ints, len_ints, List.getElem?_nil, Option.getD_none, Option.getD_some, Nat.sub_zero, not_true_eq_false, not_false_eq_true, Nat.le_refl, take_bytes, take_ints, nlS_0, nlS_1, nlM_0, nlM_1, nlN_0, nlN_1, take_bys1, map_byte, len_bytes, flat_bytes, Int.toNat_natCast, Nat.mul_one, Int.cast_ofNat_Int]
    rw [den_loop]
    refine den_inv cF_ok (σ := Int × List UInt8) (fun s => [(4, nlS 0 1 s.2.length), (3, .int .i64 s.1), (0, .int .i64 n)]) (fun s => nlM 0 5 (bys s.2) [] s.2.length) (fun s => nlN 0 s.2.length)
      (fun s => s.2 ++ dig s.1 = dig (magR n)) (fun s => s.1.toNat) (magR n, []) ⟨[], by simp [EntM, compat, apartM, keysBelow, frEnt, geto, eta, idHs, rd, SV.ren, SV.renL, Option.getD_some, Option.getD_none, List.getElem?_cons_zero, List.getElem?_cons_succ, List.getElem?_nil, List.length_cons, List.length_nil, Nat.zero_add, Nat.add_zero, Nat.reduceAdd, Nat.reduceSub, Nat.reduceEqDiff, Nat.reduceLT, Nat.reduceLeDiff, ↓reduceIte, Kind.isOwn, List.take_succ_cons, List.take_zero, List.nil_append, List.cons_append, List.append_nil, List.take_nil, and_self, and_true, true_and, exists_eq_left', Option.some.injEq, Blk.mk.injEq, Kind.own.injEq, List.drop_zero, List.take_length, Nat.le_refl, ne_eq, not_false_eq_true, implies_true, List.forall_mem_cons, List.not_mem_nil, false_imp_iff, Bool.or_false, Bool.false_or, Bool.or_self, Bool.true_or, Bool.or_true, forall_const, reduceCtorEq, List.mem_cons, or_false, forall_eq_or_imp, forall_eq, Nat.succ_ne_self, exists_eq_left, Option.some_inj, byte_ren, one_byte, ren_bytes, len_bytes, take_bytes, take_ints, nlS_0, nlS_1, nlM_0, nlM_1, nlN_0, nlN_1, take_bys1, ren_ints, len_ints], by simp [k1, EntM, compat, apartM, keysBelow, frEnt, geto, eta, idHs, rd, SV.ren, SV.renL, Option.getD_some, Option.getD_none, List.getElem?_cons_zero, List.getElem?_cons_succ, List.getElem?_nil, List.length_cons, List.length_nil, Nat.zero_add, Nat.add_zero, Nat.reduceAdd, Nat.reduceSub, Nat.reduceEqDiff, Nat.reduceLT, Nat.reduceLeDiff, ↓reduceIte, Kind.isOwn, List.take_succ_cons, List.take_zero, List.nil_append, List.cons_append, List.append_nil, List.take_nil, and_self, and_true, true_and, exists_eq_left', Option.some.injEq, Blk.mk.injEq, Kind.own.injEq, List.drop_zero, List.take_length, Nat.le_refl, ne_eq, not_false_eq_true, implies_true, List.forall_mem_cons, List.not_mem_nil, false_imp_iff, Bool.or_false, Bool.false_or, Bool.or_self, Bool.true_or, Bool.or_true, forall_const, reduceCtorEq, List.mem_cons, or_false, forall_eq_or_imp, forall_eq, Nat.succ_ne_self, exists_eq_left, Option.some_inj, byte_ren, one_byte, ren_bytes, len_bytes, take_bytes, take_ints, nlS_0, nlS_1, nlM_0, nlM_1, nlN_0, nlN_1, take_bys1, ren_ints, len_ints]⟩ rfl ?_
    rintro ⟨m, pre⟩ hpre
    simp only at hpre
    have hl := congrArg List.length hpre
    simp only [List.length_append] at hl
    by_cases hm : m > 0
    · rw [dig_pos hm, ← List.singleton_append, ← List.append_assoc] at hpre
      have hb := wrapB_sv (m.tmod 256)
      have hdec := (nxtR_lt hm).1
      cases pre with
      | nil =>
        simp (config := { maxSteps := 1000000 }) only [hm, SV.flatL, SV.flat, Bool.and_true, Bool.and_self, Bool.true_and, beq_self_eq_true, Int.reduceGE, Int.reduceGT, ↓u_callAnd, Blk.mk.injEq, List.cons.injEq, SV.int.injEq, SV.bool.injEq, SV.tup.injEq, SV.agg.injEq, and_self, undef, Int.reduceBNe, Int.reduceBEq, Nat.reduceBNe, Nat.reduceBEq, ↓u_callX, lookF, setv, finO_r, finO_n, finO_x, again_n, again_x, again_r, lookT, eqPat, eqTag, reduceCtorEq, Nat.reduceEqDiff, Nat.reduceAdd, Nat.reduceSub, Nat.reduceMul, Nat.reduceDiv, Nat.reduceLeDiff, Nat.reduceLT, Int.reduceToNat, Int.reduceLT, Int.reduceLE, Int.reduceAdd, Int.reduceSub, Int.reduceMul, Int.reduceNeg, Int.reduceEq, Int.reduceNe, wrap64, false_imp_iff, true_imp_iff, eq_self, decide_true, decide_false, Int.cast_ofNat_Int,  true_and, and_true, false_and, and_false, imp_self, implies_true, List.getElem?_cons_zero, List.getElem?_cons_succ, List.length_cons, List.length_nil, List.append_nil, List.nil_append, List.cons_append, List.take_succ_cons, List.take_zero, List.drop_succ_cons, List.drop_zero, List.take_nil, List.drop_nil, List.reverse_cons, List.reverse_nil, List.map_cons, List.map_nil, Nat.zero_add, Nat.add_zero, frOf, den_nil, den_o0, ↓gd_tt, ↓gd_ff, ↓gd_tf, ↓gd_ft, gd_any, den_o1, kont_app, den_g, setv, Bool.not_true, Bool.not_false, den_skip, den_reg, den_regD, den_regP, den_A, den_regW, den_W, den_bad, evW, baseD, stBlk, touch, clear, untouched, updsW, List.all_cons, List.all_nil, List.contains_cons, List.contains_nil, Bool.not_true, Bool.not_false, Bool.or_false, Bool.or_self, Bool.false_or, Bool.true_or, Bool.or_true, den_seq, den_cond, den_block, den_exit, den_ret, den_b, den_xb, den_xo, den_xc, den_xu, den_rb, den_ro, den_rc, den_ru, den_u, den_loopU, finP_r, finP_n, finP_x, finE_r, finE_n, finE_x, ↓reduceIte, ↓e_box, ↓e_build, ↓e_bslice, ↓e_load, ↓e_store, ↓e_idxS, ↓e_idxV, ↓e_idxT, ↓e_fieldV, ↓e_eqv, ↓e_isNil, ↓e_b2s, ↓e_slcS, ↓e_arrAt, ↓e_ext, ↓e_app, ↓e_copy, ↓e_mv, ↓e_pick, ↓e_new, ↓e_nilc, ↓e_fld, ↓e_idxA, ↓e_bin, ↓e_eqb, ↓e_un, ↓e_conv, ↓e_strS, ↓e_s2b, ↓e_mkfn, ↓e_mksl, ↓e_slcA, ↓e_slcT, ↓e_call, ↓e_callp, ↓e_callv, ↓e_len, ↓e_lenA, ↓e_mx, ↓e_mn, ↓e_mkmap, ↓e_mput, ↓e_mlen, ↓e_mk8, ↓e_capN, ↓e_appZ, ↓u_onInt, ↓u_onBool, ↓u_onOpt0, ↓u_onOpt1, ↓u_binV, ↓u_srcOf, ↓u_srcSl, ↓binI, ↓binS, ↓fillE, ↓evRes, evA, Opd.ev, Sx.get, put, putO, del, dels, frD, memD, pickD, kills, views, newer, rd, rm, upd, splice, keysOf, kvOf, SV.cells?, SV.one, retOf, ↓u_callS, canLW, canV, canC, belowL, apH, apH1, eta, SV.ren, SV.renL, newOwn, targets, rms, Kind.isOwn, ren_bytes, byte_ren, ren_ints, flat_ints, len_ints, List.getElem?_nil, Option.getD_none, Option.getD_some, Nat.sub_zero, not_true_eq_false, not_false_eq_true, Nat.le_refl, take_bytes, take_ints, nlS_0, nlS_1, nlM_0, nlM_1, nlN_0, nlN_1, take_bys1, map_byte, len_bytes, flat_bytes, Int.toNat_natCast, Nat.mul_one, Int.cast_ofNat_Int]
        exact ⟨by omega, by omega, (nxtR m, _), ⟨[(1, 0)], by simp [hb, EntM, compat, apartM, keysBelow, frEnt, geto, eta, idHs, rd, SV.ren, SV.renL, Option.getD_some, Option.getD_none, List.getElem?_cons_zero, List.getElem?_cons_succ, List.getElem?_nil, List.length_cons, List.length_nil, Nat.zero_add, Nat.add_zero, Nat.reduceAdd, Nat.reduceSub, Nat.reduceEqDiff, Nat.reduceLT, Nat.reduceLeDiff, ↓reduceIte, Kind.isOwn, List.take_succ_cons, List.take_zero, List.nil_append, List.cons_append, List.append_nil, List.take_nil, and_self, and_true, true_and, exists_eq_left', Option.some.injEq, Blk.mk.injEq, Kind.own.injEq, List.drop_zero, List.take_length, Nat.le_refl, ne_eq, not_false_eq_true, implies_true, List.forall_mem_cons, List.not_mem_nil, false_imp_iff, Bool.or_false, Bool.false_or, Bool.or_self, Bool.true_or, Bool.or_true, forall_const, reduceCtorEq, List.mem_cons, or_false, forall_eq_or_imp, forall_eq, Nat.succ_ne_self, exists_eq_left, Option.some_inj, byte_ren, one_byte, ren_bytes, len_bytes, take_bytes, take_ints, nlS_0, nlS_1, nlM_0, nlM_1, nlN_0, nlN_1, take_bys1, ren_ints, len_ints], by simp [nxtR, EntM, compat, apartM, keysBelow, frEnt, geto, eta, idHs, rd, SV.ren, SV.renL, Option.getD_some, Option.getD_none, List.getElem?_cons_zero, List.getElem?_cons_succ, List.getElem?_nil, List.length_cons, List.length_nil, Nat.zero_add, Nat.add_zero, Nat.reduceAdd, Nat.reduceSub, Nat.reduceEqDiff, Nat.reduceLT, Nat.reduceLeDiff, ↓reduceIte, Kind.isOwn, List.take_succ_cons, List.take_zero, List.nil_append, List.cons_append, List.append_nil, List.take_nil, and_self, and_true, true_and, exists_eq_left', Option.some.injEq, Blk.mk.injEq, Kind.own.injEq, List.drop_zero, List.take_length, Nat.le_refl, ne_eq, not_false_eq_true, implies_true, List.forall_mem_cons, List.not_mem_nil, false_imp_iff, Bool.or_false, Bool.false_or, Bool.or_self, Bool.true_or, Bool.or_true, forall_const, reduceCtorEq, List.mem_cons, or_false, forall_eq_or_imp, forall_eq, Nat.succ_ne_self, exists_eq_left, Option.some_inj, byte_ren, one_byte, ren_bytes, len_bytes, take_bytes, take_ints, nlS_0, nlS_1, nlM_0, nlM_1, nlN_0, nlN_1, take_bys1, ren_ints, len_ints]⟩, hpre, by simp only; omega⟩
      | cons c pre =>
        have h9 : pre.length ≤ 9 := by simp at hl; omega
        simp (config := { maxSteps := 1000000 }) only [hm, SV.flatL, SV.flat, Bool.and_true, Bool.and_self, Bool.true_and, beq_self_eq_true, Int.reduceGE, Int.reduceGT, ↓u_callAnd, Blk.mk.injEq, List.cons.injEq, SV.int.injEq, SV.bool.injEq, SV.tup.injEq, SV.agg.injEq, and_self, undef, Int.reduceBNe, Int.reduceBEq, Nat.reduceBNe, Nat.reduceBEq, ↓u_callX, lookF, setv, finO_r, finO_n, finO_x, again_n, again_x, again_r, lookT, eqPat, eqTag, reduceCtorEq, Nat.reduceEqDiff, Nat.reduceAdd, Nat.reduceSub, Nat.reduceMul, Nat.reduceDiv, Nat.reduceLeDiff, Nat.reduceLT, Int.reduceToNat, Int.reduceLT, Int.reduceLE, Int.reduceAdd, Int.reduceSub, Int.reduceMul, Int.reduceNeg, Int.reduceEq, Int.reduceNe, wrap64, false_imp_iff, true_imp_iff, eq_self, decide_true, decide_false, Int.cast_ofNat_Int,  true_and, and_true, false_and, and_false, imp_self, implies_true, List.getElem?_cons_zero, List.getElem?_cons_succ, List.length_cons, List.length_nil, List.append_nil, List.nil_append, List.cons_append, List.take_succ_cons, List.take_zero, List.drop_succ_cons, List.drop_zero, List.take_nil, List.drop_nil, List.reverse_cons, List.reverse_nil, List.map_cons, List.map_nil, Nat.zero_add, Nat.add_zero, frOf, den_nil, den_o0, ↓gd_tt, ↓gd_ff, ↓gd_tf, ↓gd_ft, gd_any, den_o1, kont_app, den_g, setv, Bool.not_true, Bool.not_false, den_skip, den_reg, den_regD, den_regP, den_A, den_regW, den_W, den_bad, evW, baseD, stBlk, touch, clear, untouched, updsW, List.all_cons, List.all_nil, List.contains_cons, List.contains_nil, Bool.not_true, Bool.not_false, Bool.or_false, Bool.or_self, Bool.false_or, Bool.true_or, Bool.or_true, den_seq, den_cond, den_block, den_exit, den_ret, den_b, den_xb, den_xo, den_xc, den_xu, den_rb, den_ro, den_rc, den_ru, den_u, den_loopU, finP_r, finP_n, finP_x, finE_r, finE_n, finE_x, ↓reduceIte, ↓e_box, ↓e_build, ↓e_bslice, ↓e_load, ↓e_store, ↓e_idxS, ↓e_idxV, ↓e_idxT, ↓e_fieldV, ↓e_eqv, ↓e_isNil, ↓e_b2s, ↓e_slcS, ↓e_arrAt, ↓e_ext, ↓e_app, ↓e_copy, ↓e_mv, ↓e_pick, ↓e_new, ↓e_nilc, ↓e_fld, ↓e_idxA, ↓e_bin, ↓e_eqb, ↓e_un, ↓e_conv, ↓e_strS, ↓e_s2b, ↓e_mkfn, ↓e_mksl, ↓e_slcA, ↓e_slcT, ↓e_call, ↓e_callp, ↓e_callv, ↓e_len, ↓e_lenA, ↓e_mx, ↓e_mn, ↓e_mkmap, ↓e_mput, ↓e_mlen, ↓e_mk8, ↓e_capN, ↓e_appZ, ↓u_onInt, ↓u_onBool, ↓u_onOpt0, ↓u_onOpt1, ↓u_binV, ↓u_srcOf, ↓u_srcSl, ↓binI, ↓binS, ↓fillE, ↓evRes, evA, Opd.ev, Sx.get, put, putO, del, dels, frD, memD, pickD, kills, views, newer, rd, rm, upd, splice, keysOf, kvOf, SV.cells?, SV.one, retOf, ↓u_callS, canLW, canV, canC, belowL, apH, apH1, eta, SV.ren, SV.renL, newOwn, targets, rms, Kind.isOwn, ren_bytes, byte_ren, ren_ints, flat_ints, len_ints, List.getElem?_nil, Option.getD_none, Option.getD_some, Nat.sub_zero, not_true_eq_false, not_false_eq_true, Nat.le_refl, take_bytes, take_ints, nlS_0, nlS_1, nlM_0, nlM_1, nlN_0, nlN_1, take_bys1, map_byte, len_bytes, flat_bytes, Int.toNat_natCast, Nat.mul_one, Int.cast_ofNat_Int]
        rw [hb, bytes_app1]
        exact ⟨by omega, by omega, (nxtR m, _), ⟨[(2, 0)], by simp [EntM, compat, apartM, keysBelow, frEnt, geto, eta, idHs, rd, SV.ren, SV.renL, Option.getD_some, Option.getD_none, List.getElem?_cons_zero, List.getElem?_cons_succ, List.getElem?_nil, List.length_cons, List.length_nil, Nat.zero_add, Nat.add_zero, Nat.reduceAdd, Nat.reduceSub, Nat.reduceEqDiff, Nat.reduceLT, Nat.reduceLeDiff, ↓reduceIte, Kind.isOwn, List.take_succ_cons, List.take_zero, List.nil_append, List.cons_append, List.append_nil, List.take_nil, and_self, and_true, true_and, exists_eq_left', Option.some.injEq, Blk.mk.injEq, Kind.own.injEq, List.drop_zero, List.take_length, Nat.le_refl, ne_eq, not_false_eq_true, implies_true, List.forall_mem_cons, List.not_mem_nil, false_imp_iff, Bool.or_false, Bool.false_or, Bool.or_self, Bool.true_or, Bool.or_true, forall_const, reduceCtorEq, List.mem_cons, or_false, forall_eq_or_imp, forall_eq, Nat.succ_ne_self, exists_eq_left, Option.some_inj, byte_ren, one_byte, ren_bytes, len_bytes, take_bytes, take_ints, nlS_0, nlS_1, nlM_0, nlM_1, nlN_0, nlN_1, take_bys1, ren_ints, len_ints], by simp [nxtR, EntM, compat, apartM, keysBelow, frEnt, geto, eta, idHs, rd, SV.ren, SV.renL, Option.getD_some, Option.getD_none, List.getElem?_cons_zero, List.getElem?_cons_succ, List.getElem?_nil, List.length_cons, List.length_nil, Nat.zero_add, Nat.add_zero, Nat.reduceAdd, Nat.reduceSub, Nat.reduceEqDiff, Nat.reduceLT, Nat.reduceLeDiff, ↓reduceIte, Kind.isOwn, List.take_succ_cons, List.take_zero, List.nil_append, List.cons_append, List.append_nil, List.take_nil, and_self, and_true, true_and, exists_eq_left', Option.some.injEq, Blk.mk.injEq, Kind.own.injEq, List.drop_zero, List.take_length, Nat.le_refl, ne_eq, not_false_eq_true, implies_true, List.forall_mem_cons, List.not_mem_nil, false_imp_iff, Bool.or_false, Bool.false_or, Bool.or_self, Bool.true_or, Bool.or_true, forall_const, reduceCtorEq, List.mem_cons, or_false, forall_eq_or_imp, forall_eq, Nat.succ_ne_self, exists_eq_left, Option.some_inj, byte_ren, one_byte, ren_bytes, len_bytes, take_bytes, take_ints, nlS_0, nlS_1, nlM_0, nlM_1, nlN_0, nlN_1, take_bys1, ren_ints, len_ints]⟩, hpre, by simp only; omega⟩
    · rw [dig_neg hm, List.append_nil] at hpre
      subst hpre
      have key2 : encR n = hdR n :: (dig (magR n)).reverse.map (turnR n) := rfl
      generalize hds : dig (magR n) = ds at *
      have hh : hdR n = if n ≥ 0 then wrapB (IntKind.i64.wrap (128 + (ds.length : Int))) else wrapB (IntKind.i64.wrap (127 - (ds.length : Int))) := by unfold hdR; rw [hds]
      have hb1 := wrapB_sv (IntKind.i64.wrap (128 + (ds.length : Int)))
      have hb2 := wrapB_sv (IntKind.i64.wrap (127 - (ds.length : Int)))
      have w0 : IntKind.i64.wrap ((ds.length : Int) - 1) = (ds.length : Int) - 1 := wrap64_eq (by omega) (by omega)
      have hn2 : (n ≥ 0) = ¬ (n < 0) := by simp
      have hhd : SV.int .u8 (IntKind.u8.wrap (IntKind.i64.wrap (if n ≥ 0 then 128 + (ds.length : Int) else 127 - (ds.length : Int)))) = SV.byte (hdR n) := by
        rw [hh]
        by_cases hc : n ≥ 0
        · rw [if_pos hc, if_pos hc]; exact hb1
        · rw [if_neg hc, if_neg hc]; exact hb2
      simp only [hn2, hn, not_true_eq_false, not_false_eq_true, if_true, if_false] at hhd
      cases ds with
      | nil =>
        simp (config := { maxSteps := 1000000 }) only [hm, hn, hn2, w0, SV.flatL, SV.flat, Bool.and_true, Bool.and_self, Bool.true_and, beq_self_eq_true, Int.reduceGE, Int.reduceGT, ↓u_callAnd, Blk.mk.injEq, List.cons.injEq, SV.int.injEq, SV.bool.injEq, SV.tup.injEq, SV.agg.injEq, and_self, undef, Int.reduceBNe, Int.reduceBEq, Nat.reduceBNe, Nat.reduceBEq, ↓u_callX, lookF, setv, finO_r, finO_n, finO_x, again_n, again_x, again_r, lookT, eqPat, eqTag, reduceCtorEq, Nat.reduceEqDiff, Nat.reduceAdd, Nat.reduceSub, Nat.reduceMul, Nat.reduceDiv, Nat.reduceLeDiff, Nat.reduceLT, Int.reduceToNat, Int.reduceLT, Int.reduceLE, Int.reduceAdd, Int.reduceSub, Int.reduceMul, Int.reduceNeg, Int.reduceEq, Int.reduceNe, wrap64, false_imp_iff, true_imp_iff, eq_self, decide_true, decide_false, Int.cast_ofNat_Int,  true_and, and_true, false_and, and_false, imp_self, implies_true, List.getElem?_cons_zero, List.getElem?_cons_succ, List.length_cons, List.length_nil, List.append_nil, List.nil_append, List.cons_append, List.take_succ_cons, List.take_zero, List.drop_succ_cons, List.drop_zero, List.take_nil, List.drop_nil, List.reverse_cons, List.reverse_nil, List.map_cons, List.map_nil, Nat.zero_add, Nat.add_zero, frOf, den_nil, den_o0, ↓gd_tt, ↓gd_ff, ↓gd_tf, ↓gd_ft, gd_any, den_o1, kont_app, den_g, setv, Bool.not_true, Bool.not_false, den_skip, den_reg, den_regD, den_regP, den_A, den_regW, den_W, den_bad, evW, baseD, stBlk, touch, clear, untouched, updsW, List.all_cons, List.all_nil, List.contains_cons, List.contains_nil, Bool.not_true, Bool.not_false, Bool.or_false, Bool.or_self, Bool.false_or, Bool.true_or, Bool.or_true, den_seq, den_cond, den_block, den_exit, den_ret, den_b, den_xb, den_xo, den_xc, den_xu, den_rb, den_ro, den_rc, den_ru, den_u, den_loopU, finP_r, finP_n, finP_x, finE_r, finE_n, finE_x, ↓reduceIte, ↓e_box, ↓e_build, ↓e_bslice, ↓e_load, ↓e_store, ↓e_idxS, ↓e_idxV, ↓e_idxT, ↓e_fieldV, ↓e_eqv, ↓e_isNil, ↓e_b2s, ↓e_slcS, ↓e_arrAt, ↓e_ext, ↓e_app, ↓e_copy, ↓e_mv, ↓e_pick, ↓e_new, ↓e_nilc, ↓e_fld, ↓e_idxA, ↓e_bin, ↓e_eqb, ↓e_un, ↓e_conv, ↓e_strS, ↓e_s2b, ↓e_mkfn, ↓e_mksl, ↓e_slcA, ↓e_slcT, ↓e_call, ↓e_callp, ↓e_callv, ↓e_len, ↓e_lenA, ↓e_mx, ↓e_mn, ↓e_mkmap, ↓e_mput, ↓e_mlen, ↓e_mk8, ↓e_capN, ↓e_appZ, ↓u_onInt, ↓u_onBool, ↓u_onOpt0, ↓u_onOpt1, ↓u_binV, ↓u_srcOf, ↓u_srcSl, ↓binI, ↓binS, ↓fillE, ↓evRes, evA, Opd.ev, Sx.get, put, putO, del, dels, frD, memD, pickD, kills, views, newer, rd, rm, upd, splice, keysOf, kvOf, SV.cells?, SV.one, retOf, ↓u_callS, canLW, canV, canC, belowL, apH, apH1, eta, SV.ren, SV.renL, newOwn, targets, rms, Kind.isOwn, ren_bytes, byte_ren, ren_ints, flat_ints, len_ints, List.getElem?_nil, Option.getD_none, Option.getD_some, Nat.sub_zero, not_true_eq_false, not_false_eq_true, Nat.le_refl, take_bytes, take_ints, nlS_0, nlS_1, nlM_0, nlM_1, nlN_0, nlN_1, take_bys1, map_byte, len_bytes, flat_bytes, Int.toNat_natCast, Nat.mul_one, Int.cast_ofNat_Int]
        simp only [List.length_nil, Int.natCast_zero, Int.add_zero, Int.sub_zero, wrap64_eq, Int.reduceNeg, Int.reduceLE] at hhd
        rw [den_loop]
        refine ⟨by omega, by omega, den_unroll cF_ok (callT_point _ _) 2 ?_⟩
        simp (config := { maxSteps := 1000000 }) only [hm, hn, hn2, w0, SV.flatL, SV.flat, Bool.and_true, Bool.and_self, Bool.true_and, beq_self_eq_true, Int.reduceGE, Int.reduceGT, ↓u_callAnd, Blk.mk.injEq, List.cons.injEq, SV.int.injEq, SV.bool.injEq, SV.tup.injEq, SV.agg.injEq, and_self, undef, Int.reduceBNe, Int.reduceBEq, Nat.reduceBNe, Nat.reduceBEq, ↓u_callX, lookF, setv, finO_r, finO_n, finO_x, again_n, again_x, again_r, lookT, eqPat, eqTag, reduceCtorEq, Nat.reduceEqDiff, Nat.reduceAdd, Nat.reduceSub, Nat.reduceMul, Nat.reduceDiv, Nat.reduceLeDiff, Nat.reduceLT, Int.reduceToNat, Int.reduceLT, Int.reduceLE, Int.reduceAdd, Int.reduceSub, Int.reduceMul, Int.reduceNeg, Int.reduceEq, Int.reduceNe, wrap64, false_imp_iff, true_imp_iff, eq_self, decide_true, decide_false, Int.cast_ofNat_Int,  true_and, and_true, false_and, and_false, imp_self, implies_true, List.getElem?_cons_zero, List.getElem?_cons_succ, List.length_cons, List.length_nil, List.append_nil, List.nil_append, List.cons_append, List.take_succ_cons, List.take_zero, List.drop_succ_cons, List.drop_zero, List.take_nil, List.drop_nil, List.reverse_cons, List.reverse_nil, List.map_cons, List.map_nil, Nat.zero_add, Nat.add_zero, frOf, den_nil, den_o0, ↓gd_tt, ↓gd_ff, ↓gd_tf, ↓gd_ft, gd_any, den_o1, kont_app, den_g, setv, Bool.not_true, Bool.not_false, den_skip, den_reg, den_regD, den_regP, den_A, den_regW, den_W, den_bad, evW, baseD, stBlk, touch, clear, untouched, updsW, List.all_cons, List.all_nil, List.contains_cons, List.contains_nil, Bool.not_true, Bool.not_false, Bool.or_false, Bool.or_self, Bool.false_or, Bool.true_or, Bool.or_true, den_seq, den_cond, den_block, den_exit, den_ret, den_b, den_xb, den_xo, den_xc, den_xu, den_rb, den_ro, den_rc, den_ru, den_u, den_loopU, finP_r, finP_n, finP_x, finE_r, finE_n, finE_x, ↓reduceIte, ↓e_box, ↓e_build, ↓e_bslice, ↓e_load, ↓e_store, ↓e_idxS, ↓e_idxV, ↓e_idxT, ↓e_fieldV, ↓e_eqv, ↓e_isNil, ↓e_b2s, ↓e_slcS, ↓e_arrAt, ↓e_ext, ↓e_app, ↓e_copy, ↓e_mv, ↓e_pick, ↓e_new, ↓e_nilc, ↓e_fld, ↓e_idxA, ↓e_bin, ↓e_eqb, ↓e_un, ↓e_conv, ↓e_strS, ↓e_s2b, ↓e_mkfn, ↓e_mksl, ↓e_slcA, ↓e_slcT, ↓e_call, ↓e_callp, ↓e_callv, ↓e_len, ↓e_lenA, ↓e_mx, ↓e_mn, ↓e_mkmap, ↓e_mput, ↓e_mlen, ↓e_mk8, ↓e_capN, ↓e_appZ, ↓u_onInt, ↓u_onBool, ↓u_onOpt0, ↓u_onOpt1, ↓u_binV, ↓u_srcOf, ↓u_srcSl, ↓binI, ↓binS, ↓fillE, ↓evRes, evA, Opd.ev, Sx.get, put, putO, del, dels, frD, memD, pickD, kills, views, newer, rd, rm, upd, splice, keysOf, kvOf, SV.cells?, SV.one, retOf, ↓u_callS, canLW, canV, canC, belowL, apH, apH1, eta, SV.ren, SV.renL, newOwn, targets, rms, Kind.isOwn, ren_bytes, byte_ren, ren_ints, flat_ints, len_ints, List.getElem?_nil, Option.getD_none, Option.getD_some, Nat.sub_zero, not_true_eq_false, not_false_eq_true, Nat.le_refl, take_bytes, take_ints, nlS_0, nlS_1, nlM_0, nlM_1, nlN_0, nlN_1, take_bys1, map_byte, len_bytes, flat_bytes, Int.toNat_natCast, Nat.mul_one, Int.cast_ofNat_Int]
        exact ⟨[(1, 0)], by simp [hhd, key2, EntM, compat, apartM, keysBelow, frEnt, geto, eta, idHs, rd, SV.ren, SV.renL, Option.getD_some, Option.getD_none, List.getElem?_cons_zero, List.getElem?_cons_succ, List.getElem?_nil, List.length_cons, List.length_nil, Nat.zero_add, Nat.add_zero, Nat.reduceAdd, Nat.reduceSub, Nat.reduceEqDiff, Nat.reduceLT, Nat.reduceLeDiff, ↓reduceIte, Kind.isOwn, List.take_succ_cons, List.take_zero, List.nil_append, List.cons_append, List.append_nil, List.take_nil, and_self, and_true, true_and, exists_eq_left', Option.some.injEq, Blk.mk.injEq, Kind.own.injEq, List.drop_zero, List.take_length, Nat.le_refl, ne_eq, not_false_eq_true, implies_true, List.forall_mem_cons, List.not_mem_nil, false_imp_iff, Bool.or_false, Bool.false_or, Bool.or_self, Bool.true_or, Bool.or_true, forall_const, reduceCtorEq, List.mem_cons, or_false, forall_eq_or_imp, forall_eq, Nat.succ_ne_self, exists_eq_left, Option.some_inj, byte_ren, one_byte, ren_bytes, len_bytes, take_bytes, take_ints, nlS_0, nlS_1, nlM_0, nlM_1, nlN_0, nlN_1, take_bys1, ren_ints, len_ints], by simp [key2, EntM, compat, apartM, keysBelow, frEnt, geto, eta, idHs, rd, SV.ren, SV.renL, Option.getD_some, Option.getD_none, List.getElem?_cons_zero, List.getElem?_cons_succ, List.getElem?_nil, List.length_cons, List.length_nil, Nat.zero_add, Nat.add_zero, Nat.reduceAdd, Nat.reduceSub, Nat.reduceEqDiff, Nat.reduceLT, Nat.reduceLeDiff, ↓reduceIte, Kind.isOwn, List.take_succ_cons, List.take_zero, List.nil_append, List.cons_append, List.append_nil, List.take_nil, and_self, and_true, true_and, exists_eq_left', Option.some.injEq, Blk.mk.injEq, Kind.own.injEq, List.drop_zero, List.take_length, Nat.le_refl, ne_eq, not_false_eq_true, implies_true, List.forall_mem_cons, List.not_mem_nil, false_imp_iff, Bool.or_false, Bool.false_or, Bool.or_self, Bool.true_or, Bool.or_true, forall_const, reduceCtorEq, List.mem_cons, or_false, forall_eq_or_imp, forall_eq, Nat.succ_ne_self, exists_eq_left, Option.some_inj, byte_ren, one_byte, ren_bytes, len_bytes, take_bytes, take_ints, nlS_0, nlS_1, nlM_0, nlM_1, nlN_0, nlN_1, take_bys1, ren_ints, len_ints]⟩
      | cons d ds =>
        simp only [List.length_cons] at hhd w0 hd9
        simp (config := { maxSteps := 1000000 }) only [hm, hn, hn2, w0, SV.flatL, SV.flat, Bool.and_true, Bool.and_self, Bool.true_and, beq_self_eq_true, Int.reduceGE, Int.reduceGT, ↓u_callAnd, Blk.mk.injEq, List.cons.injEq, SV.int.injEq, SV.bool.injEq, SV.tup.injEq, SV.agg.injEq, and_self, undef, Int.reduceBNe, Int.reduceBEq, Nat.reduceBNe, Nat.reduceBEq, ↓u_callX, lookF, setv, finO_r, finO_n, finO_x, again_n, again_x, again_r, lookT, eqPat, eqTag, reduceCtorEq, Nat.reduceEqDiff, Nat.reduceAdd, Nat.reduceSub, Nat.reduceMul, Nat.reduceDiv, Nat.reduceLeDiff, Nat.reduceLT, Int.reduceToNat, Int.reduceLT, Int.reduceLE, Int.reduceAdd, Int.reduceSub, Int.reduceMul, Int.reduceNeg, Int.reduceEq, Int.reduceNe, wrap64, false_imp_iff, true_imp_iff, eq_self, decide_true, decide_false, Int.cast_ofNat_Int,  true_and, and_true, false_and, and_false, imp_self, implies_true, List.getElem?_cons_zero, List.getElem?_cons_succ, List.length_cons, List.length_nil, List.append_nil, List.nil_append, List.cons_append, List.take_succ_cons, List.take_zero, List.drop_succ_cons, List.drop_zero, List.take_nil, List.drop_nil, List.reverse_cons, List.reverse_nil, List.map_cons, List.map_nil, Nat.zero_add, Nat.add_zero, frOf, den_nil, den_o0, ↓gd_tt, ↓gd_ff, ↓gd_tf, ↓gd_ft, gd_any, den_o1, kont_app, den_g, setv, Bool.not_true, Bool.not_false, den_skip, den_reg, den_regD, den_regP, den_A, den_regW, den_W, den_bad, evW, baseD, stBlk, touch, clear, untouched, updsW, List.all_cons, List.all_nil, List.contains_cons, List.contains_nil, Bool.not_true, Bool.not_false, Bool.or_false, Bool.or_self, Bool.false_or, Bool.true_or, Bool.or_true, den_seq, den_cond, den_block, den_exit, den_ret, den_b, den_xb, den_xo, den_xc, den_xu, den_rb, den_ro, den_rc, den_ru, den_u, den_loopU, finP_r, finP_n, finP_x, finE_r, finE_n, finE_x, ↓reduceIte, ↓e_box, ↓e_build, ↓e_bslice, ↓e_load, ↓e_store, ↓e_idxS, ↓e_idxV, ↓e_idxT, ↓e_fieldV, ↓e_eqv, ↓e_isNil, ↓e_b2s, ↓e_slcS, ↓e_arrAt, ↓e_ext, ↓e_app, ↓e_copy, ↓e_mv, ↓e_pick, ↓e_new, ↓e_nilc, ↓e_fld, ↓e_idxA, ↓e_bin, ↓e_eqb, ↓e_un, ↓e_conv, ↓e_strS, ↓e_s2b, ↓e_mkfn, ↓e_mksl, ↓e_slcA, ↓e_slcT, ↓e_call, ↓e_callp, ↓e_callv, ↓e_len, ↓e_lenA, ↓e_mx, ↓e_mn, ↓e_mkmap, ↓e_mput, ↓e_mlen, ↓e_mk8, ↓e_capN, ↓e_appZ, ↓u_onInt, ↓u_onBool, ↓u_onOpt0, ↓u_onOpt1, ↓u_binV, ↓u_srcOf, ↓u_srcSl, ↓binI, ↓binS, ↓fillE, ↓evRes, evA, Opd.ev, Sx.get, put, putO, del, dels, frD, memD, pickD, kills, views, newer, rd, rm, upd, splice, keysOf, kvOf, SV.cells?, SV.one, retOf, ↓u_callS, canLW, canV, canC, belowL, apH, apH1, eta, SV.ren, SV.renL, newOwn, targets, rms, Kind.isOwn, ren_bytes, byte_ren, ren_ints, flat_ints, len_ints, List.getElem?_nil, Option.getD_none, Option.getD_some, Nat.sub_zero, not_true_eq_false, not_false_eq_true, Nat.le_refl, take_bytes, take_ints, nlS_0, nlS_1, nlM_0, nlM_1, nlN_0, nlN_1, take_bys1, map_byte, len_bytes, flat_bytes, Int.toNat_natCast, Nat.mul_one, Int.cast_ofNat_Int]
        refine ⟨by omega, by omega, ?_⟩
        rw [den_loop]
        refine den_inv cF_ok (σ := Nat × List UInt8) (fun s => [(7, .int .i64 ((s.1 : Int) - 1)), (6, .slc 1 0 1 s.2.length none), (4, .slc 0 0 1 (ds.length + 1) none), (0, .int .i64 n)])
          (fun s => [(1, ⟨.own 5, bys s.2⟩), (0, ⟨.own 5, bys (d :: ds)⟩)]) (fun _ => 2) (fun s => s.1 ≤ ds.length + 1 ∧ s.2 ++ ((d :: ds).take s.1).reverse.map (turnR n) = encR n) (fun s => s.1) (ds.length + 1, [hdR n]) ?_ ⟨Nat.le_refl _, ?_⟩ ?_
        · exact ⟨[(0, 0), (2, 0)], by simp only [hhd, EntM, compat, apartM, keysBelow, frEnt, geto, eta, idHs, rd, SV.ren, SV.renL, Option.getD_some, Option.getD_none, List.getElem?_cons_zero, List.getElem?_cons_succ, List.getElem?_nil, List.length_cons, List.length_nil, Nat.zero_add, Nat.add_zero, Nat.reduceAdd, Nat.reduceSub, Nat.reduceEqDiff, Nat.reduceLT, Nat.reduceLeDiff, ↓reduceIte, Kind.isOwn, List.take_succ_cons, List.take_zero, List.nil_append, List.cons_append, List.append_nil, List.take_nil, and_self, and_true, true_and, exists_eq_left', Option.some.injEq, Blk.mk.injEq, Kind.own.injEq, List.drop_zero, List.take_length, Nat.le_refl, ne_eq, not_false_eq_true, implies_true, List.forall_mem_cons, List.not_mem_nil, false_imp_iff, Bool.or_false, Bool.false_or, Bool.or_self, Bool.true_or, Bool.or_true, forall_const, reduceCtorEq, List.mem_cons, or_false, forall_eq_or_imp, forall_eq, Nat.succ_ne_self, exists_eq_left, Option.some_inj, byte_ren, one_byte, ren_bytes, len_bytes, take_bytes, take_ints, nlS_0, nlS_1, nlM_0, nlM_1, nlN_0, nlN_1, take_bys1, ren_ints, len_ints], by simp only [EntM, compat, apartM, keysBelow, frEnt, geto, eta, idHs, rd, SV.ren, SV.renL, Option.getD_some, Option.getD_none, List.getElem?_cons_zero, List.getElem?_cons_succ, List.getElem?_nil, List.length_cons, List.length_nil, Nat.zero_add, Nat.add_zero, Nat.reduceAdd, Nat.reduceSub, Nat.reduceEqDiff, Nat.reduceLT, Nat.reduceLeDiff, ↓reduceIte, Kind.isOwn, List.take_succ_cons, List.take_zero, List.nil_append, List.cons_append, List.append_nil, List.take_nil, and_self, and_true, true_and, exists_eq_left', Option.some.injEq, Blk.mk.injEq, Kind.own.injEq, List.drop_zero, List.take_length, Nat.le_refl, ne_eq, not_false_eq_true, implies_true, List.forall_mem_cons, List.not_mem_nil, false_imp_iff, Bool.or_false, Bool.false_or, Bool.or_self, Bool.true_or, Bool.or_true, forall_const, reduceCtorEq, List.mem_cons, or_false, forall_eq_or_imp, forall_eq, Nat.succ_ne_self, exists_eq_left, Option.some_inj, byte_ren, one_byte, ren_bytes, len_bytes, take_bytes, take_ints, nlS_0, nlS_1, nlM_0, nlM_1, nlN_0, nlN_1, take_bys1, ren_ints, len_ints]⟩
        · rw [key2, List.take_of_length_le (by simp)]; rfl
        · rintro ⟨i, pre⟩ ⟨hi, hpre⟩
          simp only at hi hpre
          by_cases hi0 : i = 0
          · subst hi0
            simp only [List.take_zero, List.reverse_nil, List.map_nil, List.append_nil] at hpre
            subst hpre
            simp (config := { maxSteps := 1000000 }) only [SV.flatL, SV.flat, Bool.and_true, Bool.and_self, Bool.true_and, beq_self_eq_true, Int.reduceGE, Int.reduceGT, ↓u_callAnd, Blk.mk.injEq, List.cons.injEq, SV.int.injEq, SV.bool.injEq, SV.tup.injEq, SV.agg.injEq, and_self, undef, Int.reduceBNe, Int.reduceBEq, Nat.reduceBNe, Nat.reduceBEq, ↓u_callX, lookF, setv, finO_r, finO_n, finO_x, again_n, again_x, again_r, lookT, eqPat, eqTag, reduceCtorEq, Nat.reduceEqDiff, Nat.reduceAdd, Nat.reduceSub, Nat.reduceMul, Nat.reduceDiv, Nat.reduceLeDiff, Nat.reduceLT, Int.reduceToNat, Int.reduceLT, Int.reduceLE, Int.reduceAdd, Int.reduceSub, Int.reduceMul, Int.reduceNeg, Int.reduceEq, Int.reduceNe, wrap64, false_imp_iff, true_imp_iff, eq_self, decide_true, decide_false, Int.cast_ofNat_Int,  true_and, and_true, false_and, and_false, imp_self, implies_true, List.getElem?_cons_zero, List.getElem?_cons_succ, List.length_cons, List.length_nil, List.append_nil, List.nil_append, List.cons_append, List.take_succ_cons, List.take_zero, List.drop_succ_cons, List.drop_zero, List.take_nil, List.drop_nil, List.reverse_cons, List.reverse_nil, List.map_cons, List.map_nil, Nat.zero_add, Nat.add_zero, frOf, den_nil, den_o0, ↓gd_tt, ↓gd_ff, ↓gd_tf, ↓gd_ft, gd_any, den_o1, kont_app, den_g, setv, Bool.not_true, Bool.not_false, den_skip, den_reg, den_regD, den_regP, den_A, den_regW, den_W, den_bad, evW, baseD, stBlk, touch, clear, untouched, updsW, List.all_cons, List.all_nil, List.contains_cons, List.contains_nil, Bool.not_true, Bool.not_false, Bool.or_false, Bool.or_self, Bool.false_or, Bool.true_or, Bool.or_true, den_seq, den_cond, den_block, den_exit, den_ret, den_b, den_xb, den_xo, den_xc, den_xu, den_rb, den_ro, den_rc, den_ru, den_u, den_loopU, finP_r, finP_n, finP_x, finE_r, finE_n, finE_x, ↓reduceIte, ↓e_box, ↓e_build, ↓e_bslice, ↓e_load, ↓e_store, ↓e_idxS, ↓e_idxV, ↓e_idxT, ↓e_fieldV, ↓e_eqv, ↓e_isNil, ↓e_b2s, ↓e_slcS, ↓e_arrAt, ↓e_ext, ↓e_app, ↓e_copy, ↓e_mv, ↓e_pick, ↓e_new, ↓e_nilc, ↓e_fld, ↓e_idxA, ↓e_bin, ↓e_eqb, ↓e_un, ↓e_conv, ↓e_strS, ↓e_s2b, ↓e_mkfn, ↓e_mksl, ↓e_slcA, ↓e_slcT, ↓e_call, ↓e_callp, ↓e_callv, ↓e_len, ↓e_lenA, ↓e_mx, ↓e_mn, ↓e_mkmap, ↓e_mput, ↓e_mlen, ↓e_mk8, ↓e_capN, ↓e_appZ, ↓u_onInt, ↓u_onBool, ↓u_onOpt0, ↓u_onOpt1, ↓u_binV, ↓u_srcOf, ↓u_srcSl, ↓binI, ↓binS, ↓fillE, ↓evRes, evA, Opd.ev, Sx.get, put, putO, del, dels, frD, memD, pickD, kills, views, newer, rd, rm, upd, splice, keysOf, kvOf, SV.cells?, SV.one, retOf, ↓u_callS, canLW, canV, canC, belowL, apH, apH1, eta, SV.ren, SV.renL, newOwn, targets, rms, Kind.isOwn, ren_bytes, byte_ren, ren_ints, flat_ints, len_ints, List.getElem?_nil, Option.getD_none, Option.getD_some, Nat.sub_zero, not_true_eq_false, not_false_eq_true, Nat.le_refl, take_bytes, take_ints, nlS_0, nlS_1, nlM_0, nlM_1, nlN_0, nlN_1, take_bys1, map_byte, len_bytes, flat_bytes, Int.toNat_natCast, Nat.mul_one, Int.cast_ofNat_Int]
            exact ⟨[(1, 0)], by simp [EntM, compat, apartM, keysBelow, frEnt, geto, eta, idHs, rd, SV.ren, SV.renL, Option.getD_some, Option.getD_none, List.getElem?_cons_zero, List.getElem?_cons_succ, List.getElem?_nil, List.length_cons, List.length_nil, Nat.zero_add, Nat.add_zero, Nat.reduceAdd, Nat.reduceSub, Nat.reduceEqDiff, Nat.reduceLT, Nat.reduceLeDiff, ↓reduceIte, Kind.isOwn, List.take_succ_cons, List.take_zero, List.nil_append, List.cons_append, List.append_nil, List.take_nil, and_self, and_true, true_and, exists_eq_left', Option.some.injEq, Blk.mk.injEq, Kind.own.injEq, List.drop_zero, List.take_length, Nat.le_refl, ne_eq, not_false_eq_true, implies_true, List.forall_mem_cons, List.not_mem_nil, false_imp_iff, Bool.or_false, Bool.false_or, Bool.or_self, Bool.true_or, Bool.or_true, forall_const, reduceCtorEq, List.mem_cons, or_false, forall_eq_or_imp, forall_eq, Nat.succ_ne_self, exists_eq_left, Option.some_inj, byte_ren, one_byte, ren_bytes, len_bytes, take_bytes, take_ints, nlS_0, nlS_1, nlM_0, nlM_1, nlN_0, nlN_1, take_bys1, ren_ints, len_ints], by simp [EntM, compat, apartM, keysBelow, frEnt, geto, eta, idHs, rd, SV.ren, SV.renL, Option.getD_some, Option.getD_none, List.getElem?_cons_zero, List.getElem?_cons_succ, List.getElem?_nil, List.length_cons, List.length_nil, Nat.zero_add, Nat.add_zero, Nat.reduceAdd, Nat.reduceSub, Nat.reduceEqDiff, Nat.reduceLT, Nat.reduceLeDiff, ↓reduceIte, Kind.isOwn, List.take_succ_cons, List.take_zero, List.nil_append, List.cons_append, List.append_nil, List.take_nil, and_self, and_true, true_and, exists_eq_left', Option.some.injEq, Blk.mk.injEq, Kind.own.injEq, List.drop_zero, List.take_length, Nat.le_refl, ne_eq, not_false_eq_true, implies_true, List.forall_mem_cons, List.not_mem_nil, false_imp_iff, Bool.or_false, Bool.false_or, Bool.or_self, Bool.true_or, Bool.or_true, forall_const, reduceCtorEq, List.mem_cons, or_false, forall_eq_or_imp, forall_eq, Nat.succ_ne_self, exists_eq_left, Option.some_inj, byte_ren, one_byte, ren_bytes, len_bytes, take_bytes, take_ints, nlS_0, nlS_1, nlM_0, nlM_1, nlN_0, nlN_1, take_bys1, ren_ints, len_ints]⟩
          · have q0 : (i : Int) - 1 ≥ 0 := by omega
            have v2 : IntKind.i64.wrap ((i : Int) - 1 - 1) = (i : Int) - 1 - 1 := wrap64_eq (by omega) (by omega)
            have q1 : ((i : Int) - 1 < ((ds.length + 1 : Nat) : Int)) := by omega
            have q2 : ((i : Int) - 1).toNat = i - 1 := by omega
            obtain ⟨x, hx⟩ : ∃ x, (d :: ds)[i - 1]? = some x := ⟨_, List.getElem?_eq_getElem (by simp; omega)⟩
            have gx := get_bysI hx
            have hc : turnR n x = (if n < 0 then wrapB (255 - (x.toNat : Int)) else x) := rfl
            have q3 : i - 1 < ds.length + 1 := by omega
            have hb3 := wrapB_sv (255 - (x.toNat : Int))
            simp (config := { maxSteps := 1000000 }) only [hn, q0, q1, q2, q3, v2, gx, SV.flatL, SV.flat, Bool.and_true, Bool.and_self, Bool.true_and, beq_self_eq_true, Int.reduceGE, Int.reduceGT, ↓u_callAnd, Blk.mk.injEq, List.cons.injEq, SV.int.injEq, SV.bool.injEq, SV.tup.injEq, SV.agg.injEq, and_self, undef, Int.reduceBNe, Int.reduceBEq, Nat.reduceBNe, Nat.reduceBEq, ↓u_callX, lookF, setv, finO_r, finO_n, finO_x, again_n, again_x, again_r, lookT, eqPat, eqTag, reduceCtorEq, Nat.reduceEqDiff, Nat.reduceAdd, Nat.reduceSub, Nat.reduceMul, Nat.reduceDiv, Nat.reduceLeDiff, Nat.reduceLT, Int.reduceToNat, Int.reduceLT, Int.reduceLE, Int.reduceAdd, Int.reduceSub, Int.reduceMul, Int.reduceNeg, Int.reduceEq, Int.reduceNe, wrap64, false_imp_iff, true_imp_iff, eq_self, decide_true, decide_false, Int.cast_ofNat_Int,  true_and, and_true, false_and, and_false, imp_self, implies_true, List.getElem?_cons_zero, List.getElem?_cons_succ, List.length_cons, List.length_nil, List.append_nil, List.nil_append, List.cons_append, List.take_succ_cons, List.take_zero, List.drop_succ_cons, List.drop_zero, List.take_nil, List.drop_nil, List.reverse_cons, List.reverse_nil, List.map_cons, List.map_nil, Nat.zero_add, Nat.add_zero, frOf, den_nil, den_o0, ↓gd_tt, ↓gd_ff, ↓gd_tf, ↓gd_ft, gd_any, den_o1, kont_app, den_g, setv, Bool.not_true, Bool.not_false, den_skip, den_reg, den_regD, den_regP, den_A, den_regW, den_W, den_bad, evW, baseD, stBlk, touch, clear, untouched, updsW, List.all_cons, List.all_nil, List.contains_cons, List.contains_nil, Bool.not_true, Bool.not_false, Bool.or_false, Bool.or_self, Bool.false_or, Bool.true_or, Bool.or_true, den_seq, den_cond, den_block, den_exit, den_ret, den_b, den_xb, den_xo, den_xc, den_xu, den_rb, den_ro, den_rc, den_ru, den_u, den_loopU, finP_r, finP_n, finP_x, finE_r, finE_n, finE_x, ↓reduceIte, ↓e_box, ↓e_build, ↓e_bslice, ↓e_load, ↓e_store, ↓e_idxS, ↓e_idxV, ↓e_idxT, ↓e_fieldV, ↓e_eqv, ↓e_isNil, ↓e_b2s, ↓e_slcS, ↓e_arrAt, ↓e_ext, ↓e_app, ↓e_copy, ↓e_mv, ↓e_pick, ↓e_new, ↓e_nilc, ↓e_fld, ↓e_idxA, ↓e_bin, ↓e_eqb, ↓e_un, ↓e_conv, ↓e_strS, ↓e_s2b, ↓e_mkfn, ↓e_mksl, ↓e_slcA, ↓e_slcT, ↓e_call, ↓e_callp, ↓e_callv, ↓e_len, ↓e_lenA, ↓e_mx, ↓e_mn, ↓e_mkmap, ↓e_mput, ↓e_mlen, ↓e_mk8, ↓e_capN, ↓e_appZ, ↓u_onInt, ↓u_onBool, ↓u_onOpt0, ↓u_onOpt1, ↓u_binV, ↓u_srcOf, ↓u_srcSl, ↓binI, ↓binS, ↓fillE, ↓evRes, evA, Opd.ev, Sx.get, put, putO, del, dels, frD, memD, pickD, kills, views, newer, rd, rm, upd, splice, keysOf, kvOf, SV.cells?, SV.one, retOf, ↓u_callS, canLW, canV, canC, belowL, apH, apH1, eta, SV.ren, SV.renL, newOwn, targets, rms, Kind.isOwn, ren_bytes, byte_ren, ren_ints, flat_ints, len_ints, List.getElem?_nil, Option.getD_none, Option.getD_some, Nat.sub_zero, not_true_eq_false, not_false_eq_true, Nat.le_refl, take_bytes, take_ints, nlS_0, nlS_1, nlM_0, nlM_1, nlN_0, nlN_1, take_bys1, map_byte, len_bytes, flat_bytes, Int.toNat_natCast, Nat.mul_one, Int.cast_ofNat_Int]
            rw [take_succ_rev hi0 hx, List.map_cons, ← List.singleton_append, ← List.append_assoc, hc] at hpre
            simp only [hn, if_true, if_false] at hpre
            have h10 : pre.length ≤ 10 := by have := congrArg List.length hpre; simp at this; omega
            have hci : ((i - 1 : Nat) : Int) = (i : Int) - 1 := by omega
            first
              | rw [hb3, bytes_app1]
              | rw [byte_I, bytes_app1]
            exact ⟨by omega, by omega, (i - 1, _), ⟨[(0, 0), (3, 0)], by simp [EntM, compat, apartM, keysBelow, frEnt, geto, eta, idHs, rd, SV.ren, SV.renL, Option.getD_some, Option.getD_none, List.getElem?_cons_zero, List.getElem?_cons_succ, List.getElem?_nil, List.length_cons, List.length_nil, Nat.zero_add, Nat.add_zero, Nat.reduceAdd, Nat.reduceSub, Nat.reduceEqDiff, Nat.reduceLT, Nat.reduceLeDiff, ↓reduceIte, Kind.isOwn, List.take_succ_cons, List.take_zero, List.nil_append, List.cons_append, List.append_nil, List.take_nil, and_self, and_true, true_and, exists_eq_left', Option.some.injEq, Blk.mk.injEq, Kind.own.injEq, List.drop_zero, List.take_length, Nat.le_refl, ne_eq, not_false_eq_true, implies_true, List.forall_mem_cons, List.not_mem_nil, false_imp_iff, Bool.or_false, Bool.false_or, Bool.or_self, Bool.true_or, Bool.or_true, forall_const, reduceCtorEq, List.mem_cons, or_false, forall_eq_or_imp, forall_eq, Nat.succ_ne_self, exists_eq_left, Option.some_inj, byte_ren, one_byte, ren_bytes, len_bytes, take_bytes, take_ints, nlS_0, nlS_1, nlM_0, nlM_1, nlN_0, nlN_1, take_bys1, ren_ints, len_ints], by simp [hci, EntM, compat, apartM, keysBelow, frEnt, geto, eta, idHs, rd, SV.ren, SV.renL, Option.getD_some, Option.getD_none, List.getElem?_cons_zero, List.getElem?_cons_succ, List.getElem?_nil, List.length_cons, List.length_nil, Nat.zero_add, Nat.add_zero, Nat.reduceAdd, Nat.reduceSub, Nat.reduceEqDiff, Nat.reduceLT, Nat.reduceLeDiff, ↓reduceIte, Kind.isOwn, List.take_succ_cons, List.take_zero, List.nil_append, List.cons_append, List.append_nil, List.take_nil, and_self, and_true, true_and, exists_eq_left', Option.some.injEq, Blk.mk.injEq, Kind.own.injEq, List.drop_zero, List.take_length, Nat.le_refl, ne_eq, not_false_eq_true, implies_true, List.forall_mem_cons, List.not_mem_nil, false_imp_iff, Bool.or_false, Bool.false_or, Bool.or_self, Bool.true_or, Bool.or_true, forall_const, reduceCtorEq, List.mem_cons, or_false, forall_eq_or_imp, forall_eq, Nat.succ_ne_self, exists_eq_left, Option.some_inj, byte_ren, one_byte, ren_bytes, len_bytes, take_bytes, take_ints, nlS_0, nlS_1, nlM_0, nlM_1, nlN_0, nlN_1, take_bys1, ren_ints, len_ints]⟩, ⟨by simp only; omega, hpre⟩, by simp only; omega⟩
def gIntR : GS
  | [.int .i64 n], [] => some (.slc 0 0 1 (encR n).length none, [(0, ⟨.own 5, bys (encR n)⟩)], 1)
  | _, _ => none
theorem gIntR_ok : FunS Tryd.prog tS 38 gIntR := by
  intro a0 m0 r m1 n1 h
  unfold gIntR at h
  split at h
  · cases h; exact ⟨f38 _, by simp [freshB]⟩
  · cases h
end Go.Proofs.YtkfbkooobfepeaaDoor

/- The reference's encodings of lists of integers and of texts; the joining of slices. -/
namespace Go.Proofs.YtkfbkooobfepeaaDoor
open Go Go.Sx Sf
set_option maxRecDepth 100000
set_option linter.unusedSimpArgs false
set_option linter.unusedVariables false

variable {tS : List (Nat × List SV)}
def tabB : List (FuncId × GS) := [(38, gIntR)]
theorem tabB_ok : ∀ x ∈ tabB, FunS Tryd.prog tS x.1 x.2 := by
  intro x hx
  simp only [tabB, List.mem_cons, List.not_mem_nil, or_false] at hx
  rcases hx with rfl
  exact gIntR_ok
def encLR : List Int → List UInt8
  | [] => []
  | x :: l => encR x ++ encLR l
theorem encLR_len : ∀ l, (encLR l).length ≤ 10 * l.length
  | [] => Nat.le_refl _
  | x :: l => by
    have := encLR_len l
    have := encR_len x
    simp only [encLR, List.length_append, List.length_cons]; omega
def encIsR (l : List Int) : List UInt8 := encR l.length ++ encLR l

theorem f35 (l : List Int) (hl : l.length ≤ 1000) (cap : Option Nat) :
    Fun Tryd.prog tS 35 [.slc 0 0 1 l.length cap] [(0, ⟨.view, ints l⟩)] 1 (.slc 1 0 1 (encIsR l).length none) [(1, ⟨.own 5, bys (encIsR l)⟩)] 2 := by
  refine fun_any none (callS tabB cF) (callS_ok tabB_ok cF_ok) chk35 (show 1 ≤ 22 by decide) (by decide) ?_
  unfold sf35
  have hL := encLR_len l
  have hI := encR_len l.length
  have hT : (encIsR l).length ≤ 10 * (l.length + 1) := by unfold encIsR; simp; omega
  simp (config := { maxSteps := 1000000 }) only [tabB, gIntR, SV.flatL, SV.flat, Bool.and_true, Bool.and_self, Bool.true_and, beq_self_eq_true, Int.reduceGE, Int.reduceGT, ↓u_callAnd, Blk.mk.injEq, List.cons.injEq, SV.int.injEq, SV.bool.injEq, SV.tup.injEq, SV.agg.injEq, and_self, undef, Int.reduceBNe, Int.reduceBEq, Nat.reduceBNe, Nat.reduceBEq, ↓u_callX, lookF, setv, finO_r, finO_n, finO_x, again_n, again_x, again_r, lookT, eqPat, eqTag, reduceCtorEq, Nat.reduceEqDiff, Nat.reduceAdd, Nat.reduceSub, Nat.reduceMul, Nat.reduceDiv, Nat.reduceLeDiff, Nat.reduceLT, Int.reduceToNat, Int.reduceLT, Int.reduceLE, Int.reduceAdd, Int.reduceSub, Int.reduceMul, Int.reduceNeg, Int.reduceEq, Int.reduceNe, wrap64, false_imp_iff, true_imp_iff, eq_self, decide_true, decide_false, Int.cast_ofNat_Int,  true_and, and_true, false_and, and_false, imp_self, implies_true, List.getElem?_cons_zero, List.getElem?_cons_succ, List.length_cons, List.length_nil, List.append_nil, List.nil_append, List.cons_append, List.take_succ_cons, List.take_zero, List.drop_succ_cons, List.drop_zero, List.take_nil, List.drop_nil, List.reverse_cons, List.reverse_nil, List.map_cons, List.map_nil, Nat.zero_add, Nat.add_zero, frOf, den_nil, den_o0, ↓gd_tt, ↓gd_ff, ↓gd_tf, ↓gd_ft, gd_any, den_o1, kont_app, den_g, setv, Bool.not_true, Bool.not_false, den_skip, den_reg, den_regD, den_regP, den_A, den_regW, den_W, den_bad, evW, baseD, stBlk, touch, clear, untouched, updsW, List.all_cons, List.all_nil, List.contains_cons, List.contains_nil, Bool.not_true, Bool.not_false, Bool.or_false, Bool.or_self, Bool.false_or, Bool.true_or, Bool.or_true, den_seq, den_cond, den_block, den_exit, den_ret, den_b, den_xb, den_xo, den_xc, den_xu, den_rb, den_ro, den_rc, den_ru, den_u, den_loopU, finP_r, finP_n, finP_x, finE_r, finE_n, finE_x, ↓reduceIte, ↓e_box, ↓e_build, ↓e_bslice, ↓e_load, ↓e_store, ↓e_idxS, ↓e_idxV, ↓e_idxT, ↓e_fieldV, ↓e_eqv, ↓e_isNil, ↓e_b2s, ↓e_slcS, ↓e_arrAt, ↓e_ext, ↓e_app, ↓e_copy, ↓e_mv, ↓e_pick, ↓e_new, ↓e_nilc, ↓e_fld, ↓e_idxA, ↓e_bin, ↓e_eqb, ↓e_un, ↓e_conv, ↓e_strS, ↓e_s2b, ↓e_mkfn, ↓e_mksl, ↓e_slcA, ↓e_slcT, ↓e_call, ↓e_callp, ↓e_callv, ↓e_len, ↓e_lenA, ↓e_mx, ↓e_mn, ↓e_mkmap, ↓e_mput, ↓e_mlen, ↓e_mk8, ↓e_capN, ↓e_appZ, ↓u_onInt, ↓u_onBool, ↓u_onOpt0, ↓u_onOpt1, ↓u_binV, ↓u_srcOf, ↓u_srcSl, ↓binI, ↓binS, ↓fillE, ↓evRes, evA, Opd.ev, Sx.get, put, putO, del, dels, frD, memD, pickD, kills, views, newer, rd, rm, upd, splice, keysOf, kvOf, SV.cells?, SV.one, retOf, ↓u_callS, canLW, canV, canC, belowL, apH, apH1, eta, SV.ren, SV.renL, newOwn, targets, rms, Kind.isOwn, ren_bytes, byte_ren, ren_ints, flat_ints, len_ints, List.getElem?_nil, Option.getD_none, Option.getD_some, Nat.sub_zero, not_true_eq_false, not_false_eq_true, Nat.le_refl, take_bytes, take_ints, nlS_0, nlS_1, nlM_0, nlM_1, nlN_0, nlN_1, take_bys1, map_byte, len_bytes, flat_bytes, Int.toNat_natCast, Nat.mul_one, Int.cast_ofNat_Int]
  rw [den_loop]
  refine den_inv (callS_ok tabB_ok cF_ok) (σ := Nat × List UInt8) (fun s => [(4, .int .i64 (s.1 : Int)), (0, .slc 0 0 1 l.length cap), (3, .slc 1 0 1 s.2.length none)])
    (fun s => [(1, ⟨.own 5, bys s.2⟩), (0, ⟨.view, ints l⟩)]) (fun _ => 2) (fun s => s.1 ≤ l.length ∧ s.2 ++ encLR (l.drop s.1) = encIsR l) (fun s => l.length - s.1) (0, encR l.length) ?_ ⟨Nat.zero_le _, rfl⟩ ?_
  · exact ⟨[(0, 0), (1, 0)], by simp [EntM, compat, apartM, keysBelow, frEnt, geto, eta, idHs, rd, SV.ren, SV.renL, Option.getD_some, Option.getD_none, List.getElem?_cons_zero, List.getElem?_cons_succ, List.getElem?_nil, List.length_cons, List.length_nil, Nat.zero_add, Nat.add_zero, Nat.reduceAdd, Nat.reduceSub, Nat.reduceEqDiff, Nat.reduceLT, Nat.reduceLeDiff, ↓reduceIte, Kind.isOwn, List.take_succ_cons, List.take_zero, List.nil_append, List.cons_append, List.append_nil, List.take_nil, and_self, and_true, true_and, exists_eq_left', Option.some.injEq, Blk.mk.injEq, Kind.own.injEq, List.drop_zero, List.take_length, Nat.le_refl, ne_eq, not_false_eq_true, implies_true, List.forall_mem_cons, List.not_mem_nil, false_imp_iff, Bool.or_false, Bool.false_or, Bool.or_self, Bool.true_or, Bool.or_true, forall_const, reduceCtorEq, List.mem_cons, or_false, forall_eq_or_imp, forall_eq, Nat.succ_ne_self, exists_eq_left, Option.some_inj, byte_ren, one_byte, ren_bytes, len_bytes, take_bytes, take_ints, nlS_0, nlS_1, nlM_0, nlM_1, nlN_0, nlN_1, take_bys1, ren_ints, len_ints], by simp [EntM, compat, apartM, keysBelow, frEnt, geto, eta, idHs, rd, SV.ren, SV.renL, Option.getD_some, Option.getD_none, List.getElem?_cons_zero, List.getElem?_cons_succ, List.getElem?_nil, List.length_cons, List.length_nil, Nat.zero_add, Nat.add_zero, Nat.reduceAdd, Nat.reduceSub, Nat.reduceEqDiff, Nat.reduceLT, Nat.reduceLeDiff, ↓reduceIte, Kind.isOwn, List.take_succ_cons, List.take_zero, List.nil_append, List.cons_append, List.append_nil, List.take_nil, and_self, and_true, true_and, exists_eq_left', Option.some.injEq, Blk.mk.injEq, Kind.own.injEq, List.drop_zero, List.take_length, Nat.le_refl, ne_eq, not_false_eq_true, implies_true, List.forall_mem_cons, List.not_mem_nil, false_imp_iff, Bool.or_false, Bool.false_or, Bool.or_self, Bool.true_or, Bool.or_true, forall_const, reduceCtorEq, List.mem_cons, or_false, forall_eq_or_imp, forall_eq, Nat.succ_ne_self, exists_eq_left, Option.some_inj, byte_ren, one_byte, ren_bytes, len_bytes, take_bytes, take_ints, nlS_0, nlS_1, nlM_0, nlM_1, nlN_0, nlN_1, take_bys1, ren_ints, len_ints]⟩
  · rintro ⟨i, pre⟩ ⟨hi, hpre⟩
    simp only at hi hpre
    have hlen := congrArg List.length hpre
    simp only [List.length_append] at hlen
    by_cases h : i < l.length
    · have c1 : (i : Int) < (l.length : Int) := by omega
      have c2 : (0 : Int) ≤ (i : Int) := by omega
      have wi : IntKind.i64.wrap ((i : Int) + 1) = ((i + 1 : Nat) : Int) := by rw [wrap64_eq (by omega) (by omega)]; omega
      obtain ⟨x, hx⟩ : ∃ x, l[i]? = some x := ⟨_, List.getElem?_eq_getElem h⟩
      have hd : l.drop i = x :: l.drop (i + 1) := by
        rw [List.drop_eq_getElem_cons h]
        rw [List.getElem?_eq_getElem h] at hx; cases hx; rfl
      rw [hd] at hpre
      simp only [encLR, ← List.append_assoc] at hpre
      have hlen2 := congrArg List.length hpre
      simp only [List.length_append] at hlen2
      have gx := get_ints hx
      simp (config := { maxSteps := 1000000 }) only [tabB, gIntR, h, c1, c2, wi, gx, SV.flatL, SV.flat, Bool.and_true, Bool.and_self, Bool.true_and, beq_self_eq_true, Int.reduceGE, Int.reduceGT, ↓u_callAnd, Blk.mk.injEq, List.cons.injEq, SV.int.injEq, SV.bool.injEq, SV.tup.injEq, SV.agg.injEq, and_self, undef, Int.reduceBNe, Int.reduceBEq, Nat.reduceBNe, Nat.reduceBEq, ↓u_callX, lookF, setv, finO_r, finO_n, finO_x, again_n, again_x, again_r, lookT, eqPat, eqTag, reduceCtorEq, Nat.reduceEqDiff, Nat.reduceAdd, Nat.reduceSub, Nat.reduceMul, Nat.reduceDiv, Nat.reduceLeDiff, Nat.reduceLT, Int.reduceToNat, Int.reduceLT, Int.reduceLE, Int.reduceAdd, Int.reduceSub, Int.reduceMul, Int.reduceNeg, Int.reduceEq, Int.reduceNe, wrap64, false_imp_iff, true_imp_iff, eq_self, decide_true, decide_false, Int.cast_ofNat_Int,  true_and, and_true, false_and, and_false, imp_self, implies_true, List.getElem?_cons_zero, List.getElem?_cons_succ, List.length_cons, List.length_nil, List.append_nil, List.nil_append, List.cons_append, List.take_succ_cons, List.take_zero, List.drop_succ_cons, List.drop_zero, List.take_nil, List.drop_nil, List.reverse_cons, List.reverse_nil, List.map_cons, List.map_nil, Nat.zero_add, Nat.add_zero, frOf, den_nil, den_o0, ↓gd_tt, ↓gd_ff, ↓gd_tf, ↓gd_ft, gd_any, den_o1, kont_app, den_g, setv, Bool.not_true, Bool.not_false, den_skip, den_reg, den_regD, den_regP, den_A, den_regW, den_W, den_bad, evW, baseD, stBlk, touch, clear, untouched, updsW, List.all_cons, List.all_nil, List.contains_cons, List.contains_nil, Bool.not_true, Bool.not_false, Bool.or_false, Bool.or_self, Bool.false_or, Bool.true_or, Bool.or_true, den_seq, den_cond, den_block, den_exit, den_ret, den_b, den_xb, den_xo, den_xc, den_xu, den_rb, den_ro, den_rc, den_ru, den_u, den_loopU, finP_r, finP_n, finP_x, finE_r, finE_n, finE_x, ↓reduceIte, ↓e_box, ↓e_build, ↓e_bslice, ↓e_load, ↓e_store, ↓e_idxS, ↓e_idxV, ↓e_idxT, ↓e_fieldV, ↓e_eqv, ↓e_isNil, ↓e_b2s, ↓e_slcS, ↓e_arrAt, ↓e_ext, ↓e_app, ↓e_copy, ↓e_mv, ↓e_pick, ↓e_new, ↓e_nilc, ↓e_fld, ↓e_idxA, ↓e_bin, ↓e_eqb, ↓e_un, ↓e_conv, ↓e_strS, ↓e_s2b, ↓e_mkfn, ↓e_mksl, ↓e_slcA, ↓e_slcT, ↓e_call, ↓e_callp, ↓e_callv, ↓e_len, ↓e_lenA, ↓e_mx, ↓e_mn, ↓e_mkmap, ↓e_mput, ↓e_mlen, ↓e_mk8, ↓e_capN, ↓e_appZ, ↓u_onInt, ↓u_onBool, ↓u_onOpt0, ↓u_onOpt1, ↓u_binV, ↓u_srcOf, ↓u_srcSl, ↓binI, ↓binS, ↓fillE, ↓evRes, evA, Opd.ev, Sx.get, put, putO, del, dels, frD, memD, pickD, kills, views, newer, rd, rm, upd, splice, keysOf, kvOf, SV.cells?, SV.one, retOf, ↓u_callS, canLW, canV, canC, belowL, apH, apH1, eta, SV.ren, SV.renL, newOwn, targets, rms, Kind.isOwn, ren_bytes, byte_ren, ren_ints, flat_ints, len_ints, List.getElem?_nil, Option.getD_none, Option.getD_some, Nat.sub_zero, not_true_eq_false, not_false_eq_true, Nat.le_refl, take_bytes, take_ints, nlS_0, nlS_1, nlM_0, nlM_1, nlN_0, nlN_1, take_bys1, map_byte, len_bytes, flat_bytes, Int.toNat_natCast, Nat.mul_one, Int.cast_ofNat_Int]
      rw [bytes_app]
      exact ⟨by omega, by omega, (i + 1, _), ⟨[(0, 0), (3, 0)], by simp [EntM, compat, apartM, keysBelow, frEnt, geto, eta, idHs, rd, SV.ren, SV.renL, Option.getD_some, Option.getD_none, List.getElem?_cons_zero, List.getElem?_cons_succ, List.getElem?_nil, List.length_cons, List.length_nil, Nat.zero_add, Nat.add_zero, Nat.reduceAdd, Nat.reduceSub, Nat.reduceEqDiff, Nat.reduceLT, Nat.reduceLeDiff, ↓reduceIte, Kind.isOwn, List.take_succ_cons, List.take_zero, List.nil_append, List.cons_append, List.append_nil, List.take_nil, and_self, and_true, true_and, exists_eq_left', Option.some.injEq, Blk.mk.injEq, Kind.own.injEq, List.drop_zero, List.take_length, Nat.le_refl, ne_eq, not_false_eq_true, implies_true, List.forall_mem_cons, List.not_mem_nil, false_imp_iff, Bool.or_false, Bool.false_or, Bool.or_self, Bool.true_or, Bool.or_true, forall_const, reduceCtorEq, List.mem_cons, or_false, forall_eq_or_imp, forall_eq, Nat.succ_ne_self, exists_eq_left, Option.some_inj, byte_ren, one_byte, ren_bytes, len_bytes, take_bytes, take_ints, nlS_0, nlS_1, nlM_0, nlM_1, nlN_0, nlN_1, take_bys1, ren_ints, len_ints], by simp [EntM, compat, apartM, keysBelow, frEnt, geto, eta, idHs, rd, SV.ren, SV.renL, Option.getD_some, Option.getD_none, List.getElem?_cons_zero, List.getElem?_cons_succ, List.getElem?_nil, List.length_cons, List.length_nil, Nat.zero_add, Nat.add_zero, Nat.reduceAdd, Nat.reduceSub, Nat.reduceEqDiff, Nat.reduceLT, Nat.reduceLeDiff, ↓reduceIte, Kind.isOwn, List.take_succ_cons, List.take_zero, List.nil_append, List.cons_append, List.append_nil, List.take_nil, and_self, and_true, true_and, exists_eq_left', Option.some.injEq, Blk.mk.injEq, Kind.own.injEq, List.drop_zero, List.take_length, Nat.le_refl, ne_eq, not_false_eq_true, implies_true, List.forall_mem_cons, List.not_mem_nil, false_imp_iff, Bool.or_false, Bool.false_or, Bool.or_self, Bool.true_or, Bool.or_true, forall_const, reduceCtorEq, List.mem_cons, or_false, forall_eq_or_imp, forall_eq, Nat.succ_ne_self, exists_eq_left, Option.some_inj, byte_ren, one_byte, ren_bytes, len_bytes, take_bytes, take_ints, nlS_0, nlS_1, nlM_0, nlM_1, nlN_0, nlN_1, take_bys1, ren_ints, len_ints]⟩, ⟨by simp only; omega, hpre⟩, by simp only; omega⟩
    · obtain rfl : i = l.length := by omega
      simp only [List.drop_length, encLR, List.append_nil] at hpre
      subst hpre
      have c1 : ¬ (l.length : Int) < (l.length : Int) := by omega
      simp (config := { maxSteps := 1000000 }) only [tabB, gIntR, c1, SV.flatL, SV.flat, Bool.and_true, Bool.and_self, Bool.true_and, beq_self_eq_true, Int.reduceGE, Int.reduceGT, ↓u_callAnd, Blk.mk.injEq, List.cons.injEq, SV.int.injEq, SV.bool.injEq, SV.tup.injEq, SV.agg.injEq, and_self, undef, Int.reduceBNe, Int.reduceBEq, Nat.reduceBNe, Nat.reduceBEq, ↓u_callX, lookF, setv, finO_r, finO_n, finO_x, again_n, again_x, again_r, lookT, eqPat, eqTag, reduceCtorEq, Nat.reduceEqDiff, Nat.reduceAdd, Nat.reduceSub, Nat.reduceMul, Nat.reduceDiv, Nat.reduceLeDiff, Nat.reduceLT, Int.reduceToNat, Int.reduceLT, Int.reduceLE, Int.reduceAdd, Int.reduceSub, Int.reduceMul, Int.reduceNeg, Int.reduceEq, Int.reduceNe, wrap64, false_imp_iff, true_imp_iff, eq_self, decide_true, decide_false, Int.cast_ofNat_Int,  true_and, and_true, false_and, and_false, imp_self, implies_true, List.getElem?_cons_zero, List.getElem?_cons_succ, List.length_cons, List.length_nil, List.append_nil, List.nil_append, List.cons_append, List.take_succ_cons, List.take_zero, List.drop_succ_cons, List.drop_zero, List.take_nil, List.drop_nil, List.reverse_cons, List.reverse_nil, List.map_cons, List.map_nil, Nat.zero_add, Nat.add_zero, frOf, den_nil, den_o0, ↓gd_tt, ↓gd_ff, ↓gd_tf, ↓gd_ft, gd_any, den_o1, kont_app, den_g, setv, Bool.not_true, Bool.not_false, den_skip, den_reg, den_regD, den_regP, den_A, den_regW, den_W, den_bad, evW, baseD, stBlk, touch, clear, untouched, updsW, List.all_cons, List.all_nil, List.contains_cons, List.contains_nil, Bool.not_true, Bool.not_false, Bool.or_false, Bool.or_self, Bool.false_or, Bool.true_or, Bool.or_true, den_seq, den_cond, den_block, den_exit, den_ret, den_b, den_xb, den_xo, den_xc, den_xu, den_rb, den_ro, den_rc, den_ru, den_u, den_loopU, finP_r, finP_n, finP_x, finE_r, finE_n, finE_x, ↓reduceIte, ↓e_box, ↓e_build, ↓e_bslice, ↓e_load, ↓e_store, ↓e_idxS, ↓e_idxV, ↓e_idxT, ↓e_fieldV, ↓e_eqv, ↓e_isNil, ↓e_b2s, ↓e_slcS, ↓e_arrAt, ↓e_ext, ↓e_app, ↓e_copy, ↓e_mv, ↓e_pick, ↓e_new, ↓e_nilc, ↓e_fld, ↓e_idxA, ↓e_bin, ↓e_eqb, ↓e_un, ↓e_conv, ↓e_strS, ↓e_s2b, ↓e_mkfn, ↓e_mksl, ↓e_slcA, ↓e_slcT, ↓e_call, ↓e_callp, ↓e_callv, ↓e_len, ↓e_lenA, ↓e_mx, ↓e_mn, ↓e_mkmap, ↓e_mput, ↓e_mlen, ↓e_mk8, ↓e_capN, ↓e_appZ, ↓u_onInt, ↓u_onBool, ↓u_onOpt0, ↓u_onOpt1, ↓u_binV, ↓u_srcOf, ↓u_srcSl, ↓binI, ↓binS, ↓fillE, ↓evRes, evA, Opd.ev, Sx.get, put, putO, del, dels, frD, memD, pickD, kills, views, newer, rd, rm, upd, splice, keysOf, kvOf, SV.cells?, SV.one, retOf, ↓u_callS, canLW, canV, canC, belowL, apH, apH1, eta, SV.ren, SV.renL, newOwn, targets, rms, Kind.isOwn, ren_bytes, byte_ren, ren_ints, flat_ints, len_ints, List.getElem?_nil, Option.getD_none, Option.getD_some, Nat.sub_zero, not_true_eq_false, not_false_eq_true, Nat.le_refl, take_bytes, take_ints, nlS_0, nlS_1, nlM_0, nlM_1, nlN_0, nlN_1, take_bys1, map_byte, len_bytes, flat_bytes, Int.toNat_natCast, Nat.mul_one, Int.cast_ofNat_Int]
      exact ⟨[(0, 0), (1, 0)], by simp [EntM, compat, apartM, keysBelow, frEnt, geto, eta, idHs, rd, SV.ren, SV.renL, Option.getD_some, Option.getD_none, List.getElem?_cons_zero, List.getElem?_cons_succ, List.getElem?_nil, List.length_cons, List.length_nil, Nat.zero_add, Nat.add_zero, Nat.reduceAdd, Nat.reduceSub, Nat.reduceEqDiff, Nat.reduceLT, Nat.reduceLeDiff, ↓reduceIte, Kind.isOwn, List.take_succ_cons, List.take_zero, List.nil_append, List.cons_append, List.append_nil, List.take_nil, and_self, and_true, true_and, exists_eq_left', Option.some.injEq, Blk.mk.injEq, Kind.own.injEq, List.drop_zero, List.take_length, Nat.le_refl, ne_eq, not_false_eq_true, implies_true, List.forall_mem_cons, List.not_mem_nil, false_imp_iff, Bool.or_false, Bool.false_or, Bool.or_self, Bool.true_or, Bool.or_true, forall_const, reduceCtorEq, List.mem_cons, or_false, forall_eq_or_imp, forall_eq, Nat.succ_ne_self, exists_eq_left, Option.some_inj, byte_ren, one_byte, ren_bytes, len_bytes, take_bytes, take_ints, nlS_0, nlS_1, nlM_0, nlM_1, nlN_0, nlN_1, take_bys1, ren_ints, len_ints], by simp [EntM, compat, apartM, keysBelow, frEnt, geto, eta, idHs, rd, SV.ren, SV.renL, Option.getD_some, Option.getD_none, List.getElem?_cons_zero, List.getElem?_cons_succ, List.getElem?_nil, List.length_cons, List.length_nil, Nat.zero_add, Nat.add_zero, Nat.reduceAdd, Nat.reduceSub, Nat.reduceEqDiff, Nat.reduceLT, Nat.reduceLeDiff, ↓reduceIte, Kind.isOwn, List.take_succ_cons, List.take_zero, List.nil_append, List.cons_append, List.append_nil, List.take_nil, and_self, and_true, true_and, exists_eq_left', Option.some.injEq, Blk.mk.injEq, Kind.own.injEq, List.drop_zero, List.take_length, Nat.le_refl, ne_eq, not_false_eq_true, implies_true, List.forall_mem_cons, List.not_mem_nil, false_imp_iff, Bool.or_false, Bool.false_or, Bool.or_self, Bool.true_or, Bool.or_true, forall_const, reduceCtorEq, List.mem_cons, or_false, forall_eq_or_imp, forall_eq, Nat.succ_ne_self, exists_eq_left, Option.some_inj, byte_ren, one_byte, ren_bytes, len_bytes, take_bytes, take_ints, nlS_0, nlS_1, nlM_0, nlM_1, nlN_0, nlN_1, take_bys1, ren_ints, len_ints]⟩
def gIntsR : GS
  | [.slc 0 0 1 len cap], [(0, ⟨.view, cells⟩)] => match unI cells with
    | some l => if len = l.length then if l.length ≤ 1000 then some (.slc 1 0 1 (encIsR l).length none, [(1, ⟨.own 5, bys (encIsR l)⟩)], 2) else none else none
    | none => none
  | _, _ => none
theorem gIntsR_ok : FunS Tryd.prog tS 35 gIntsR := by
  intro a0 m0 r m1 n1 h
  unfold gIntsR at h
  split at h
  · split at h
    · rename_i l hl
      split at h
      · split at h
        · rename_i he h1
          cases h
          subst he
          rw [unI_some hl]
          exact ⟨f35 l h1 _, by simp [freshB]⟩
        · cases h
      · cases h
    · cases h
  · cases h

def encSR (s : List UInt8) : List UInt8 := encR s.length ++ s
theorem f36 (s : List UInt8) (hs : s.length ≤ 2 ^ 39) : Fun Tryd.prog tS 36 [.str s] [] 0 (.slc 0 0 1 (encSR s).length none) [(0, ⟨.own 5, bys (encSR s)⟩)] 1 := by
  refine fun_any none (callS tabB cF) (callS_ok tabB_ok cF_ok) chk36 (show 1 ≤ 9 by decide) (by decide) ?_
  unfold sf36
  have hI := encR_len s.length
  simp (config := { maxSteps := 1000000 }) only [tabB, gIntR, SV.flatL, SV.flat, Bool.and_true, Bool.and_self, Bool.true_and, beq_self_eq_true, Int.reduceGE, Int.reduceGT, ↓u_callAnd, Blk.mk.injEq, List.cons.injEq, SV.int.injEq, SV.bool.injEq, SV.tup.injEq, SV.agg.injEq, and_self, undef, Int.reduceBNe, Int.reduceBEq, Nat.reduceBNe, Nat.reduceBEq, ↓u_callX, lookF, setv, finO_r, finO_n, finO_x, again_n, again_x, again_r, lookT, eqPat, eqTag, reduceCtorEq, Nat.reduceEqDiff, Nat.reduceAdd, Nat.reduceSub, Nat.reduceMul, Nat.reduceDiv, Nat.reduceLeDiff, Nat.reduceLT, Int.reduceToNat, Int.reduceLT, Int.reduceLE, Int.reduceAdd, Int.reduceSub, Int.reduceMul, Int.reduceNeg, Int.reduceEq, Int.reduceNe, wrap64, false_imp_iff, true_imp_iff, eq_self, decide_true, decide_false, Int.cast_ofNat_Int,  true_and, and_true, false_and, and_false, imp_self, implies_true, List.getElem?_cons_zero, List.getElem?_cons_succ, List.length_cons, List.length_nil, List.append_nil, List.nil_append, List.cons_append, List.take_succ_cons, List.take_zero, List.drop_succ_cons, List.drop_zero, List.take_nil, List.drop_nil, List.reverse_cons, List.reverse_nil, List.map_cons, List.map_nil, Nat.zero_add, Nat.add_zero, frOf, den_nil, den_o0, ↓gd_tt, ↓gd_ff, ↓gd_tf, ↓gd_ft, gd_any, den_o1, kont_app, den_g, setv, Bool.not_true, Bool.not_false, den_skip, den_reg, den_regD, den_regP, den_A, den_regW, den_W, den_bad, evW, baseD, stBlk, touch, clear, untouched, updsW, List.all_cons, List.all_nil, List.contains_cons, List.contains_nil, Bool.not_true, Bool.not_false, Bool.or_false, Bool.or_self, Bool.false_or, Bool.true_or, Bool.or_true, den_seq, den_cond, den_block, den_exit, den_ret, den_b, den_xb, den_xo, den_xc, den_xu, den_rb, den_ro, den_rc, den_ru, den_u, den_loopU, finP_r, finP_n, finP_x, finE_r, finE_n, finE_x, ↓reduceIte, ↓e_box, ↓e_build, ↓e_bslice, ↓e_load, ↓e_store, ↓e_idxS, ↓e_idxV, ↓e_idxT, ↓e_fieldV, ↓e_eqv, ↓e_isNil, ↓e_b2s, ↓e_slcS, ↓e_arrAt, ↓e_ext, ↓e_app, ↓e_copy, ↓e_mv, ↓e_pick, ↓e_new, ↓e_nilc, ↓e_fld, ↓e_idxA, ↓e_bin, ↓e_eqb, ↓e_un, ↓e_conv, ↓e_strS, ↓e_s2b, ↓e_mkfn, ↓e_mksl, ↓e_slcA, ↓e_slcT, ↓e_call, ↓e_callp, ↓e_callv, ↓e_len, ↓e_lenA, ↓e_mx, ↓e_mn, ↓e_mkmap, ↓e_mput, ↓e_mlen, ↓e_mk8, ↓e_capN, ↓e_appZ, ↓u_onInt, ↓u_onBool, ↓u_onOpt0, ↓u_onOpt1, ↓u_binV, ↓u_srcOf, ↓u_srcSl, ↓binI, ↓binS, ↓fillE, ↓evRes, evA, Opd.ev, Sx.get, put, putO, del, dels, frD, memD, pickD, kills, views, newer, rd, rm, upd, splice, keysOf, kvOf, SV.cells?, SV.one, retOf, ↓u_callS, canLW, canV, canC, belowL, apH, apH1, eta, SV.ren, SV.renL, newOwn, targets, rms, Kind.isOwn, ren_bytes, byte_ren, ren_ints, flat_ints, len_ints, List.getElem?_nil, Option.getD_none, Option.getD_some, Nat.sub_zero, not_true_eq_false, not_false_eq_true, Nat.le_refl, take_bytes, take_ints, nlS_0, nlS_1, nlM_0, nlM_1, nlN_0, nlN_1, take_bys1, map_byte, len_bytes, flat_bytes, Int.toNat_natCast, Nat.mul_one, Int.cast_ofNat_Int]
  exact ⟨by omega, by omega, [(2, 0)], by simp [encSR, bytes_app, EntM, compat, apartM, keysBelow, frEnt, geto, eta, idHs, rd, SV.ren, SV.renL, Option.getD_some, Option.getD_none, List.getElem?_cons_zero, List.getElem?_cons_succ, List.getElem?_nil, List.length_cons, List.length_nil, Nat.zero_add, Nat.add_zero, Nat.reduceAdd, Nat.reduceSub, Nat.reduceEqDiff, Nat.reduceLT, Nat.reduceLeDiff, ↓reduceIte, Kind.isOwn, List.take_succ_cons, List.take_zero, List.nil_append, List.cons_append, List.append_nil, List.take_nil, and_self, and_true, true_and, exists_eq_left', Option.some.injEq, Blk.mk.injEq, Kind.own.injEq, List.drop_zero, List.take_length, Nat.le_refl, ne_eq, not_false_eq_true, implies_true, List.forall_mem_cons, List.not_mem_nil, false_imp_iff, Bool.or_false, Bool.false_or, Bool.or_self, Bool.true_or, Bool.or_true, forall_const, reduceCtorEq, List.mem_cons, or_false, forall_eq_or_imp, forall_eq, Nat.succ_ne_self, exists_eq_left, Option.some_inj, byte_ren, one_byte, ren_bytes, len_bytes, take_bytes, take_ints, nlS_0, nlS_1, nlM_0, nlM_1, nlN_0, nlN_1, take_bys1, ren_ints, len_ints], by simp [encSR, EntM, compat, apartM, keysBelow, frEnt, geto, eta, idHs, rd, SV.ren, SV.renL, Option.getD_some, Option.getD_none, List.getElem?_cons_zero, List.getElem?_cons_succ, List.getElem?_nil, List.length_cons, List.length_nil, Nat.zero_add, Nat.add_zero, Nat.reduceAdd, Nat.reduceSub, Nat.reduceEqDiff, Nat.reduceLT, Nat.reduceLeDiff, ↓reduceIte, Kind.isOwn, List.take_succ_cons, List.take_zero, List.nil_append, List.cons_append, List.append_nil, List.take_nil, and_self, and_true, true_and, exists_eq_left', Option.some.injEq, Blk.mk.injEq, Kind.own.injEq, List.drop_zero, List.take_length, Nat.le_refl, ne_eq, not_false_eq_true, implies_true, List.forall_mem_cons, List.not_mem_nil, false_imp_iff, Bool.or_false, Bool.false_or, Bool.or_self, Bool.true_or, Bool.or_true, forall_const, reduceCtorEq, List.mem_cons, or_false, forall_eq_or_imp, forall_eq, Nat.succ_ne_self, exists_eq_left, Option.some_inj, byte_ren, one_byte, ren_bytes, len_bytes, take_bytes, take_ints, nlS_0, nlS_1, nlM_0, nlM_1, nlN_0, nlN_1, take_bys1, ren_ints, len_ints]⟩
def gBytesR : GS
  | [.str s], [] => if s.length ≤ 2 ^ 39 then some (.slc 0 0 1 (encSR s).length none, [(0, ⟨.own 5, bys (encSR s)⟩)], 1) else none
  | _, _ => none
theorem gBytesR_ok : FunS Tryd.prog tS 36 gBytesR := by
  intro a0 m0 r m1 n1 h
  unfold gBytesR at h
  split at h
  · split at h
    · cases h
      exact ⟨f36 _ (by assumption), by simp [freshB]⟩
    · cases h
  · cases h

theorem f37 (d : List UInt8) (hd : d.length = 16) : Fun Tryd.prog tS 37 [.agg (bys d)] [] 0 (.str d) [] 0 := by
  refine fun_any none cF cF_ok chk37 (show 1 ≤ 17 by decide) (by decide) ?_
  unfold sf37
  simp (config := { maxSteps := 1000000 }) only [SV.flatL, SV.flat, Bool.and_true, Bool.and_self, Bool.true_and, beq_self_eq_true, Int.reduceGE, Int.reduceGT, ↓u_callAnd, Blk.mk.injEq, List.cons.injEq, SV.int.injEq, SV.bool.injEq, SV.tup.injEq, SV.agg.injEq, and_self, undef, Int.reduceBNe, Int.reduceBEq, Nat.reduceBNe, Nat.reduceBEq, ↓u_callX, lookF, setv, finO_r, finO_n, finO_x, again_n, again_x, again_r, lookT, eqPat, eqTag, reduceCtorEq, Nat.reduceEqDiff, Nat.reduceAdd, Nat.reduceSub, Nat.reduceMul, Nat.reduceDiv, Nat.reduceLeDiff, Nat.reduceLT, Int.reduceToNat, Int.reduceLT, Int.reduceLE, Int.reduceAdd, Int.reduceSub, Int.reduceMul, Int.reduceNeg, Int.reduceEq, Int.reduceNe, wrap64, false_imp_iff, true_imp_iff, eq_self, decide_true, decide_false, Int.cast_ofNat_Int,  true_and, and_true, false_and, and_false, imp_self, implies_true, List.getElem?_cons_zero, List.getElem?_cons_succ, List.length_cons, List.length_nil, List.append_nil, List.nil_append, List.cons_append, List.take_succ_cons, List.take_zero, List.drop_succ_cons, List.drop_zero, List.take_nil, List.drop_nil, List.reverse_cons, List.reverse_nil, List.map_cons, List.map_nil, Nat.zero_add, Nat.add_zero, frOf, den_nil, den_o0, ↓gd_tt, ↓gd_ff, ↓gd_tf, ↓gd_ft, gd_any, den_o1, kont_app, den_g, setv, Bool.not_true, Bool.not_false, den_skip, den_reg, den_regD, den_regP, den_A, den_regW, den_W, den_bad, evW, baseD, stBlk, touch, clear, untouched, updsW, List.all_cons, List.all_nil, List.contains_cons, List.contains_nil, Bool.not_true, Bool.not_false, Bool.or_false, Bool.or_self, Bool.false_or, Bool.true_or, Bool.or_true, den_seq, den_cond, den_block, den_exit, den_ret, den_b, den_xb, den_xo, den_xc, den_xu, den_rb, den_ro, den_rc, den_ru, den_u, den_loopU, finP_r, finP_n, finP_x, finE_r, finE_n, finE_x, ↓reduceIte, ↓e_box, ↓e_build, ↓e_bslice, ↓e_load, ↓e_store, ↓e_idxS, ↓e_idxV, ↓e_idxT, ↓e_fieldV, ↓e_eqv, ↓e_isNil, ↓e_b2s, ↓e_slcS, ↓e_arrAt, ↓e_ext, ↓e_app, ↓e_copy, ↓e_mv, ↓e_pick, ↓e_new, ↓e_nilc, ↓e_fld, ↓e_idxA, ↓e_bin, ↓e_eqb, ↓e_un, ↓e_conv, ↓e_strS, ↓e_s2b, ↓e_mkfn, ↓e_mksl, ↓e_slcA, ↓e_slcT, ↓e_call, ↓e_callp, ↓e_callv, ↓e_len, ↓e_lenA, ↓e_mx, ↓e_mn, ↓e_mkmap, ↓e_mput, ↓e_mlen, ↓e_mk8, ↓e_capN, ↓e_appZ, ↓u_onInt, ↓u_onBool, ↓u_onOpt0, ↓u_onOpt1, ↓u_binV, ↓u_srcOf, ↓u_srcSl, ↓binI, ↓binS, ↓fillE, ↓evRes, evA, Opd.ev, Sx.get, put, putO, del, dels, frD, memD, pickD, kills, views, newer, rd, rm, upd, splice, keysOf, kvOf, SV.cells?, SV.one, retOf, ↓u_callS, canLW, canV, canC, belowL, apH, apH1, eta, SV.ren, SV.renL, newOwn, targets, rms, Kind.isOwn, ren_bytes, byte_ren, ren_ints, flat_ints, len_ints, List.getElem?_nil, Option.getD_none, Option.getD_some, Nat.sub_zero, not_true_eq_false, not_false_eq_true, Nat.le_refl, take_bytes, take_ints, nlS_0, nlS_1, nlM_0, nlM_1, nlN_0, nlN_1, take_bys1, map_byte, len_bytes, flat_bytes, Int.toNat_natCast, Nat.mul_one, Int.cast_ofNat_Int]
  rw [den_loop]
  refine den_inv cF_ok (σ := Nat) (fun i => [(4, .int .i64 (i : Int)), (3, nlS 1 1 i), (1, .ptr 0 0)])
    (fun i => nlM 1 5 (bys (d.take i)) [(0, ⟨.own 36, bys d⟩)] i) (fun i => nlN 1 i) (fun i => i ≤ 16) (fun i => 16 - i) 0 ?_ (Nat.zero_le _) ?_
  · exact ⟨[(0, 0)], by simp [EntM, compat, apartM, keysBelow, frEnt, geto, eta, idHs, rd, SV.ren, SV.renL, Option.getD_some, Option.getD_none, List.getElem?_cons_zero, List.getElem?_cons_succ, List.getElem?_nil, List.length_cons, List.length_nil, Nat.zero_add, Nat.add_zero, Nat.reduceAdd, Nat.reduceSub, Nat.reduceEqDiff, Nat.reduceLT, Nat.reduceLeDiff, ↓reduceIte, Kind.isOwn, List.take_succ_cons, List.take_zero, List.nil_append, List.cons_append, List.append_nil, List.take_nil, and_self, and_true, true_and, exists_eq_left', Option.some.injEq, Blk.mk.injEq, Kind.own.injEq, List.drop_zero, List.take_length, Nat.le_refl, ne_eq, not_false_eq_true, implies_true, List.forall_mem_cons, List.not_mem_nil, false_imp_iff, Bool.or_false, Bool.false_or, Bool.or_self, Bool.true_or, Bool.or_true, forall_const, reduceCtorEq, List.mem_cons, or_false, forall_eq_or_imp, forall_eq, Nat.succ_ne_self, exists_eq_left, Option.some_inj, byte_ren, one_byte, ren_bytes, len_bytes, take_bytes, take_ints, nlS_0, nlS_1, nlM_0, nlM_1, nlN_0, nlN_1, take_bys1, ren_ints, len_ints], by simp [EntM, compat, apartM, keysBelow, frEnt, geto, eta, idHs, rd, SV.ren, SV.renL, Option.getD_some, Option.getD_none, List.getElem?_cons_zero, List.getElem?_cons_succ, List.getElem?_nil, List.length_cons, List.length_nil, Nat.zero_add, Nat.add_zero, Nat.reduceAdd, Nat.reduceSub, Nat.reduceEqDiff, Nat.reduceLT, Nat.reduceLeDiff, ↓reduceIte, Kind.isOwn, List.take_succ_cons, List.take_zero, List.nil_append, List.cons_append, List.append_nil, List.take_nil, and_self, and_true, true_and, exists_eq_left', Option.some.injEq, Blk.mk.injEq, Kind.own.injEq, List.drop_zero, List.take_length, Nat.le_refl, ne_eq, not_false_eq_true, implies_true, List.forall_mem_cons, List.not_mem_nil, false_imp_iff, Bool.or_false, Bool.false_or, Bool.or_self, Bool.true_or, Bool.or_true, forall_const, reduceCtorEq, List.mem_cons, or_false, forall_eq_or_imp, forall_eq, Nat.succ_ne_self, exists_eq_left, Option.some_inj, byte_ren, one_byte, ren_bytes, len_bytes, take_bytes, take_ints, nlS_0, nlS_1, nlM_0, nlM_1, nlN_0, nlN_1, take_bys1, ren_ints, len_ints]⟩
  · intro i hi
    by_cases h : i < 16
    · have c1 : (i : Int) < 16 := by omega
      have c2 : (0 : Int) ≤ (i : Int) := by omega
      have wi : IntKind.i64.wrap ((i : Int) + 1) = ((i + 1 : Nat) : Int) := by rw [wrap64_eq (by omega) (by omega)]; omega
      obtain ⟨x, hx⟩ : ∃ x, d[i]? = some x := ⟨_, List.getElem?_eq_getElem (by omega)⟩
      have gx := get_bysI hx
      have ht : bys (d.take i) ++ [SV.byte x] = bys (d.take (i + 1)) := by
        rw [bytes_app1, List.take_add_one, hx]; rfl
      have hlt : (bys (d.take i)).length = i := by rw [len_bytes]; simp; omega
      cases i with
      | zero =>
        simp (config := { maxSteps := 1000000 }) only [c1, c2, wi, gx, SV.flatL, SV.flat, Bool.and_true, Bool.and_self, Bool.true_and, beq_self_eq_true, Int.reduceGE, Int.reduceGT, ↓u_callAnd, Blk.mk.injEq, List.cons.injEq, SV.int.injEq, SV.bool.injEq, SV.tup.injEq, SV.agg.injEq, and_self, undef, Int.reduceBNe, Int.reduceBEq, Nat.reduceBNe, Nat.reduceBEq, ↓u_callX, lookF, setv, finO_r, finO_n, finO_x, again_n, again_x, again_r, lookT, eqPat, eqTag, reduceCtorEq, Nat.reduceEqDiff, Nat.reduceAdd, Nat.reduceSub, Nat.reduceMul, Nat.reduceDiv, Nat.reduceLeDiff, Nat.reduceLT, Int.reduceToNat, Int.reduceLT, Int.reduceLE, Int.reduceAdd, Int.reduceSub, Int.reduceMul, Int.reduceNeg, Int.reduceEq, Int.reduceNe, wrap64, false_imp_iff, true_imp_iff, eq_self, decide_true, decide_false, Int.cast_ofNat_Int,  true_and, and_true, false_and, and_false, imp_self, implies_true, List.getElem?_cons_zero, List.getElem?_cons_succ, List.length_cons, List.length_nil, List.append_nil, List.nil_append, List.cons_append, List.take_succ_cons, List.take_zero, List.drop_succ_cons, List.drop_zero, List.take_nil, List.drop_nil, List.reverse_cons, List.reverse_nil, List.map_cons, List.map_nil, Nat.zero_add, Nat.add_zero, frOf, den_nil, den_o0, ↓gd_tt, ↓gd_ff, ↓gd_tf, ↓gd_ft, gd_any, den_o1, kont_app, den_g, setv, Bool.not_true, Bool.not_false, den_skip, den_reg, den_regD, den_regP, den_A, den_regW, den_W, den_bad, evW, baseD, stBlk, touch, clear, untouched, updsW, List.all_cons, List.all_nil, List.contains_cons, List.contains_nil, Bool.not_true, Bool.not_false, Bool.or_false, Bool.or_self, Bool.false_or, Bool.true_or, Bool.or_true, den_seq, den_cond, den_block, den_exit, den_ret, den_b, den_xb, den_xo, den_xc, den_xu, den_rb, den_ro, den_rc, den_ru, den_u, den_loopU, finP_r, finP_n, finP_x, finE_r, finE_n, finE_x, ↓reduceIte, ↓e_box, ↓e_build, ↓e_bslice, ↓e_load, ↓e_store, ↓e_idxS, ↓e_idxV, ↓e_idxT, ↓e_fieldV, ↓e_eqv, ↓e_isNil, ↓e_b2s, ↓e_slcS, ↓e_arrAt, ↓e_ext, ↓e_app, ↓e_copy, ↓e_mv, ↓e_pick, ↓e_new, ↓e_nilc, ↓e_fld, ↓e_idxA, ↓e_bin, ↓e_eqb, ↓e_un, ↓e_conv, ↓e_strS, ↓e_s2b, ↓e_mkfn, ↓e_mksl, ↓e_slcA, ↓e_slcT, ↓e_call, ↓e_callp, ↓e_callv, ↓e_len, ↓e_lenA, ↓e_mx, ↓e_mn, ↓e_mkmap, ↓e_mput, ↓e_mlen, ↓e_mk8, ↓e_capN, ↓e_appZ, ↓u_onInt, ↓u_onBool, ↓u_onOpt0, ↓u_onOpt1, ↓u_binV, ↓u_srcOf, ↓u_srcSl, ↓binI, ↓binS, ↓fillE, ↓evRes, evA, Opd.ev, Sx.get, put, putO, del, dels, frD, memD, pickD, kills, views, newer, rd, rm, upd, splice, keysOf, kvOf, SV.cells?, SV.one, retOf, ↓u_callS, canLW, canV, canC, belowL, apH, apH1, eta, SV.ren, SV.renL, newOwn, targets, rms, Kind.isOwn, ren_bytes, byte_ren, ren_ints, flat_ints, len_ints, List.getElem?_nil, Option.getD_none, Option.getD_some, Nat.sub_zero, not_true_eq_false, not_false_eq_true, Nat.le_refl, take_bytes, take_ints, nlS_0, nlS_1, nlM_0, nlM_1, nlN_0, nlN_1, take_bys1, map_byte, len_bytes, flat_bytes, Int.toNat_natCast, Nat.mul_one, Int.cast_ofNat_Int]
        rw [byte_I]
        have ht : bys (d.take (0 + 1)) = bys [x] := by rw [← ht]; rfl
        exact ⟨by omega, by omega, 0 + 1, ⟨[(0, 0), (2, 0)], by simp only [ht, EntM, compat, apartM, keysBelow, frEnt, geto, eta, idHs, rd, SV.ren, SV.renL, Option.getD_some, Option.getD_none, List.getElem?_cons_zero, List.getElem?_cons_succ, List.getElem?_nil, List.length_cons, List.length_nil, Nat.zero_add, Nat.add_zero, Nat.reduceAdd, Nat.reduceSub, Nat.reduceEqDiff, Nat.reduceLT, Nat.reduceLeDiff, ↓reduceIte, Kind.isOwn, List.take_succ_cons, List.take_zero, List.nil_append, List.cons_append, List.append_nil, List.take_nil, and_self, and_true, true_and, exists_eq_left', Option.some.injEq, Blk.mk.injEq, Kind.own.injEq, List.drop_zero, List.take_length, Nat.le_refl, ne_eq, not_false_eq_true, implies_true, List.forall_mem_cons, List.not_mem_nil, false_imp_iff, Bool.or_false, Bool.false_or, Bool.or_self, Bool.true_or, Bool.or_true, forall_const, reduceCtorEq, List.mem_cons, or_false, forall_eq_or_imp, forall_eq, Nat.succ_ne_self, exists_eq_left, Option.some_inj, byte_ren, one_byte, ren_bytes, len_bytes, take_bytes, take_ints, nlS_0, nlS_1, nlM_0, nlM_1, nlN_0, nlN_1, take_bys1, ren_ints, len_ints], by simp only [EntM, compat, apartM, keysBelow, frEnt, geto, eta, idHs, rd, SV.ren, SV.renL, Option.getD_some, Option.getD_none, List.getElem?_cons_zero, List.getElem?_cons_succ, List.getElem?_nil, List.length_cons, List.length_nil, Nat.zero_add, Nat.add_zero, Nat.reduceAdd, Nat.reduceSub, Nat.reduceEqDiff, Nat.reduceLT, Nat.reduceLeDiff, ↓reduceIte, Kind.isOwn, List.take_succ_cons, List.take_zero, List.nil_append, List.cons_append, List.append_nil, List.take_nil, and_self, and_true, true_and, exists_eq_left', Option.some.injEq, Blk.mk.injEq, Kind.own.injEq, List.drop_zero, List.take_length, Nat.le_refl, ne_eq, not_false_eq_true, implies_true, List.forall_mem_cons, List.not_mem_nil, false_imp_iff, Bool.or_false, Bool.false_or, Bool.or_self, Bool.true_or, Bool.or_true, forall_const, reduceCtorEq, List.mem_cons, or_false, forall_eq_or_imp, forall_eq, Nat.succ_ne_self, exists_eq_left, Option.some_inj, byte_ren, one_byte, ren_bytes, len_bytes, take_bytes, take_ints, nlS_0, nlS_1, nlM_0, nlM_1, nlN_0, nlN_1, take_bys1, ren_ints, len_ints]; trivial⟩, by omega, by omega⟩
      | succ i =>
        simp (config := { maxSteps := 1000000 }) only [c1, c2, wi, gx, SV.flatL, SV.flat, Bool.and_true, Bool.and_self, Bool.true_and, beq_self_eq_true, Int.reduceGE, Int.reduceGT, ↓u_callAnd, Blk.mk.injEq, List.cons.injEq, SV.int.injEq, SV.bool.injEq, SV.tup.injEq, SV.agg.injEq, and_self, undef, Int.reduceBNe, Int.reduceBEq, Nat.reduceBNe, Nat.reduceBEq, ↓u_callX, lookF, setv, finO_r, finO_n, finO_x, again_n, again_x, again_r, lookT, eqPat, eqTag, reduceCtorEq, Nat.reduceEqDiff, Nat.reduceAdd, Nat.reduceSub, Nat.reduceMul, Nat.reduceDiv, Nat.reduceLeDiff, Nat.reduceLT, Int.reduceToNat, Int.reduceLT, Int.reduceLE, Int.reduceAdd, Int.reduceSub, Int.reduceMul, Int.reduceNeg, Int.reduceEq, Int.reduceNe, wrap64, false_imp_iff, true_imp_iff, eq_self, decide_true, decide_false, Int.cast_ofNat_Int,  true_and, and_true, false_and, and_false, imp_self, implies_true, List.getElem?_cons_zero, List.getElem?_cons_succ, List.length_cons, List.length_nil, List.append_nil, List.nil_append, List.cons_append, List.take_succ_cons, List.take_zero, List.drop_succ_cons, List.drop_zero, List.take_nil, List.drop_nil, List.reverse_cons, List.reverse_nil, List.map_cons, List.map_nil, Nat.zero_add, Nat.add_zero, frOf, den_nil, den_o0, ↓gd_tt, ↓gd_ff, ↓gd_tf, ↓gd_ft, gd_any, den_o1, kont_app, den_g, setv, Bool.not_true, Bool.not_false, den_skip, den_reg, den_regD, den_regP, den_A, den_regW, den_W, den_bad, evW, baseD, stBlk, touch, clear, untouched, updsW, List.all_cons, List.all_nil, List.contains_cons, List.contains_nil, Bool.not_true, Bool.not_false, Bool.or_false, Bool.or_self, Bool.false_or, Bool.true_or, Bool.or_true, den_seq, den_cond, den_block, den_exit, den_ret, den_b, den_xb, den_xo, den_xc, den_xu, den_rb, den_ro, den_rc, den_ru, den_u, den_loopU, finP_r, finP_n, finP_x, finE_r, finE_n, finE_x, ↓reduceIte, ↓e_box, ↓e_build, ↓e_bslice, ↓e_load, ↓e_store, ↓e_idxS, ↓e_idxV, ↓e_idxT, ↓e_fieldV, ↓e_eqv, ↓e_isNil, ↓e_b2s, ↓e_slcS, ↓e_arrAt, ↓e_ext, ↓e_app, ↓e_copy, ↓e_mv, ↓e_pick, ↓e_new, ↓e_nilc, ↓e_fld, ↓e_idxA, ↓e_bin, ↓e_eqb, ↓e_un, ↓e_conv, ↓e_strS, ↓e_s2b, ↓e_mkfn, ↓e_mksl, ↓e_slcA, ↓e_slcT, ↓e_call, ↓e_callp, ↓e_callv, ↓e_len, ↓e_lenA, ↓e_mx, ↓e_mn, ↓e_mkmap, ↓e_mput, ↓e_mlen, ↓e_mk8, ↓e_capN, ↓e_appZ, ↓u_onInt, ↓u_onBool, ↓u_onOpt0, ↓u_onOpt1, ↓u_binV, ↓u_srcOf, ↓u_srcSl, ↓binI, ↓binS, ↓fillE, ↓evRes, evA, Opd.ev, Sx.get, put, putO, del, dels, frD, memD, pickD, kills, views, newer, rd, rm, upd, splice, keysOf, kvOf, SV.cells?, SV.one, retOf, ↓u_callS, canLW, canV, canC, belowL, apH, apH1, eta, SV.ren, SV.renL, newOwn, targets, rms, Kind.isOwn, ren_bytes, byte_ren, ren_ints, flat_ints, len_ints, List.getElem?_nil, Option.getD_none, Option.getD_some, Nat.sub_zero, not_true_eq_false, not_false_eq_true, Nat.le_refl, take_bytes, take_ints, nlS_0, nlS_1, nlM_0, nlM_1, nlN_0, nlN_1, take_bys1, map_byte, len_bytes, flat_bytes, Int.toNat_natCast, Nat.mul_one, Int.cast_ofNat_Int]
        rw [byte_I]
        have e0 : List.take (i + 1) (bys (List.take (i + 1) d)) = bys (List.take (i + 1) d) := List.take_of_length_le (by omega)
        rw [e0, ht]
        exact ⟨by omega, by omega, by rw [len_bytes] at hlt; omega, i + 1 + 1, ⟨[(0, 0), (3, 0)], by simp only [EntM, compat, apartM, keysBelow, frEnt, geto, eta, idHs, rd, SV.ren, SV.renL, Option.getD_some, Option.getD_none, List.getElem?_cons_zero, List.getElem?_cons_succ, List.getElem?_nil, List.length_cons, List.length_nil, Nat.zero_add, Nat.add_zero, Nat.reduceAdd, Nat.reduceSub, Nat.reduceEqDiff, Nat.reduceLT, Nat.reduceLeDiff, ↓reduceIte, Kind.isOwn, List.take_succ_cons, List.take_zero, List.nil_append, List.cons_append, List.append_nil, List.take_nil, and_self, and_true, true_and, exists_eq_left', Option.some.injEq, Blk.mk.injEq, Kind.own.injEq, List.drop_zero, List.take_length, Nat.le_refl, ne_eq, not_false_eq_true, implies_true, List.forall_mem_cons, List.not_mem_nil, false_imp_iff, Bool.or_false, Bool.false_or, Bool.or_self, Bool.true_or, Bool.or_true, forall_const, reduceCtorEq, List.mem_cons, or_false, forall_eq_or_imp, forall_eq, Nat.succ_ne_self, exists_eq_left, Option.some_inj, byte_ren, one_byte, ren_bytes, len_bytes, take_bytes, take_ints, nlS_0, nlS_1, nlM_0, nlM_1, nlN_0, nlN_1, take_bys1, ren_ints, len_ints], by simp only [EntM, compat, apartM, keysBelow, frEnt, geto, eta, idHs, rd, SV.ren, SV.renL, Option.getD_some, Option.getD_none, List.getElem?_cons_zero, List.getElem?_cons_succ, List.getElem?_nil, List.length_cons, List.length_nil, Nat.zero_add, Nat.add_zero, Nat.reduceAdd, Nat.reduceSub, Nat.reduceEqDiff, Nat.reduceLT, Nat.reduceLeDiff, ↓reduceIte, Kind.isOwn, List.take_succ_cons, List.take_zero, List.nil_append, List.cons_append, List.append_nil, List.take_nil, and_self, and_true, true_and, exists_eq_left', Option.some.injEq, Blk.mk.injEq, Kind.own.injEq, List.drop_zero, List.take_length, Nat.le_refl, ne_eq, not_false_eq_true, implies_true, List.forall_mem_cons, List.not_mem_nil, false_imp_iff, Bool.or_false, Bool.false_or, Bool.or_self, Bool.true_or, Bool.or_true, forall_const, reduceCtorEq, List.mem_cons, or_false, forall_eq_or_imp, forall_eq, Nat.succ_ne_self, exists_eq_left, Option.some_inj, byte_ren, one_byte, ren_bytes, len_bytes, take_bytes, take_ints, nlS_0, nlS_1, nlM_0, nlM_1, nlN_0, nlN_1, take_bys1, ren_ints, len_ints]⟩, by omega, by omega⟩
    · obtain rfl : i = 16 := by omega
      simp (config := { maxSteps := 1000000 }) only [SV.flatL, SV.flat, Bool.and_true, Bool.and_self, Bool.true_and, beq_self_eq_true, Int.reduceGE, Int.reduceGT, ↓u_callAnd, Blk.mk.injEq, List.cons.injEq, SV.int.injEq, SV.bool.injEq, SV.tup.injEq, SV.agg.injEq, and_self, undef, Int.reduceBNe, Int.reduceBEq, Nat.reduceBNe, Nat.reduceBEq, ↓u_callX, lookF, setv, finO_r, finO_n, finO_x, again_n, again_x, again_r, lookT, eqPat, eqTag, reduceCtorEq, Nat.reduceEqDiff, Nat.reduceAdd, Nat.reduceSub, Nat.reduceMul, Nat.reduceDiv, Nat.reduceLeDiff, Nat.reduceLT, Int.reduceToNat, Int.reduceLT, Int.reduceLE, Int.reduceAdd, Int.reduceSub, Int.reduceMul, Int.reduceNeg, Int.reduceEq, Int.reduceNe, wrap64, false_imp_iff, true_imp_iff, eq_self, decide_true, decide_false, Int.cast_ofNat_Int,  true_and, and_true, false_and, and_false, imp_self, implies_true, List.getElem?_cons_zero, List.getElem?_cons_succ, List.length_cons, List.length_nil, List.append_nil, List.nil_append, List.cons_append, List.take_succ_cons, List.take_zero, List.drop_succ_cons, List.drop_zero, List.take_nil, List.drop_nil, List.reverse_cons, List.reverse_nil, List.map_cons, List.map_nil, Nat.zero_add, Nat.add_zero, frOf, den_nil, den_o0, ↓gd_tt, ↓gd_ff, ↓gd_tf, ↓gd_ft, gd_any, den_o1, kont_app, den_g, setv, Bool.not_true, Bool.not_false, den_skip, den_reg, den_regD, den_regP, den_A, den_regW, den_W, den_bad, evW, baseD, stBlk, touch, clear, untouched, updsW, List.all_cons, List.all_nil, List.contains_cons, List.contains_nil, Bool.not_true, Bool.not_false, Bool.or_false, Bool.or_self, Bool.false_or, Bool.true_or, Bool.or_true, den_seq, den_cond, den_block, den_exit, den_ret, den_b, den_xb, den_xo, den_xc, den_xu, den_rb, den_ro, den_rc, den_ru, den_u, den_loopU, finP_r, finP_n, finP_x, finE_r, finE_n, finE_x, ↓reduceIte, ↓e_box, ↓e_build, ↓e_bslice, ↓e_load, ↓e_store, ↓e_idxS, ↓e_idxV, ↓e_idxT, ↓e_fieldV, ↓e_eqv, ↓e_isNil, ↓e_b2s, ↓e_slcS, ↓e_arrAt, ↓e_ext, ↓e_app, ↓e_copy, ↓e_mv, ↓e_pick, ↓e_new, ↓e_nilc, ↓e_fld, ↓e_idxA, ↓e_bin, ↓e_eqb, ↓e_un, ↓e_conv, ↓e_strS, ↓e_s2b, ↓e_mkfn, ↓e_mksl, ↓e_slcA, ↓e_slcT, ↓e_call, ↓e_callp, ↓e_callv, ↓e_len, ↓e_lenA, ↓e_mx, ↓e_mn, ↓e_mkmap, ↓e_mput, ↓e_mlen, ↓e_mk8, ↓e_capN, ↓e_appZ, ↓u_onInt, ↓u_onBool, ↓u_onOpt0, ↓u_onOpt1, ↓u_binV, ↓u_srcOf, ↓u_srcSl, ↓binI, ↓binS, ↓fillE, ↓evRes, evA, Opd.ev, Sx.get, put, putO, del, dels, frD, memD, pickD, kills, views, newer, rd, rm, upd, splice, keysOf, kvOf, SV.cells?, SV.one, retOf, ↓u_callS, canLW, canV, canC, belowL, apH, apH1, eta, SV.ren, SV.renL, newOwn, targets, rms, Kind.isOwn, ren_bytes, byte_ren, ren_ints, flat_ints, len_ints, List.getElem?_nil, Option.getD_none, Option.getD_some, Nat.sub_zero, not_true_eq_false, not_false_eq_true, Nat.le_refl, take_bytes, take_ints, nlS_0, nlS_1, nlM_0, nlM_1, nlN_0, nlN_1, take_bys1, map_byte, len_bytes, flat_bytes, Int.toNat_natCast, Nat.mul_one, Int.cast_ofNat_Int]
      have e : List.take 16 d = d := List.take_of_length_le (by omega)
      have e1 : List.take 16 (bys d) = bys d := List.take_of_length_le (by rw [len_bytes]; omega)
      rw [e, e1, map_byteOf]
      exact ⟨by omega, all_isU8 _, [], by simp [EntM, compat, apartM, keysBelow, frEnt, geto, eta, idHs, rd, SV.ren, SV.renL, Option.getD_some, Option.getD_none, List.getElem?_cons_zero, List.getElem?_cons_succ, List.getElem?_nil, List.length_cons, List.length_nil, Nat.zero_add, Nat.add_zero, Nat.reduceAdd, Nat.reduceSub, Nat.reduceEqDiff, Nat.reduceLT, Nat.reduceLeDiff, ↓reduceIte, Kind.isOwn, List.take_succ_cons, List.take_zero, List.nil_append, List.cons_append, List.append_nil, List.take_nil, and_self, and_true, true_and, exists_eq_left', Option.some.injEq, Blk.mk.injEq, Kind.own.injEq, List.drop_zero, List.take_length, Nat.le_refl, ne_eq, not_false_eq_true, implies_true, List.forall_mem_cons, List.not_mem_nil, false_imp_iff, Bool.or_false, Bool.false_or, Bool.or_self, Bool.true_or, Bool.or_true, forall_const, reduceCtorEq, List.mem_cons, or_false, forall_eq_or_imp, forall_eq, Nat.succ_ne_self, exists_eq_left, Option.some_inj, byte_ren, one_byte, ren_bytes, len_bytes, take_bytes, take_ints, nlS_0, nlS_1, nlM_0, nlM_1, nlN_0, nlN_1, take_bys1, ren_ints, len_ints], rfl⟩
def gText : GS
  | [.agg cells], [] => match unB cells with
    | some d => if d.length = 16 then some (.str d, [], 0) else none
    | none => none
  | _, _ => none
theorem gText_ok : FunS Tryd.prog tS 37 gText := by
  intro a0 m0 r m1 n1 h
  unfold gText at h
  split at h
  · split at h
    · rename_i d hd
      split at h
      · cases h
        rw [unB_some hd]
        exact ⟨f37 d (by assumption), by simp [freshB]⟩
      · cases h
    · cases h
  · cases h
end Go.Proofs.YtkfbkooobfepeaaDoor

/- The joining of slices. -/
namespace Go.Proofs.YtkfbkooobfepeaaDoor
open Go Go.Sx Sf
set_option maxRecDepth 100000
set_option linter.unusedSimpArgs false
set_option linter.unusedVariables false

variable {tS : List (Nat × List SV)}
theorem f51 (k : Nat) (h0 : 0 < k) (h1 : k ≤ 2 ^ 38) : Fun Tryd.prog tS 51 [.val (.slice none 0 0), .int .i64 (k : Int)] [] 0 (.slc 0 0 1 0 none) [(0, ⟨.own 5, bys (List.replicate k 0)⟩)] 1 := by
  refine fun_any none cF cF_ok chk51 (show 2 ≤ 27 by decide) (by decide) ?_
  unfold sf51
  have c1 : ¬ (k : Int) < 0 := by omega
  have c2 : (k : Int) > 0 := by omega
  have w1 : IntKind.i64.wrap (k : Int) = (k : Int) := wrap64_eq (by omega) (by omega)
  have c3 : (0 : Int) < (k : Int) := by omega
  simp (config := { maxSteps := 1000000 }) only [c1, c2, c3, w1, Int.sub_zero, SV.flatL, SV.flat, Bool.and_true, Bool.and_self, Bool.true_and, beq_self_eq_true, Int.reduceGE, Int.reduceGT, ↓u_callAnd, Blk.mk.injEq, List.cons.injEq, SV.int.injEq, SV.bool.injEq, SV.tup.injEq, SV.agg.injEq, and_self, undef, Int.reduceBNe, Int.reduceBEq, Nat.reduceBNe, Nat.reduceBEq, ↓u_callX, lookF, setv, finO_r, finO_n, finO_x, again_n, again_x, again_r, lookT, eqPat, eqTag, reduceCtorEq, Nat.reduceEqDiff, Nat.reduceAdd, Nat.reduceSub, Nat.reduceMul, Nat.reduceDiv, Nat.reduceLeDiff, Nat.reduceLT, Int.reduceToNat, Int.reduceLT, Int.reduceLE, Int.reduceAdd, Int.reduceSub, Int.reduceMul, Int.reduceNeg, Int.reduceEq, Int.reduceNe, wrap64, false_imp_iff, true_imp_iff, eq_self, decide_true, decide_false, Int.cast_ofNat_Int,  true_and, and_true, false_and, and_false, imp_self, implies_true, List.getElem?_cons_zero, List.getElem?_cons_succ, List.length_cons, List.length_nil, List.append_nil, List.nil_append, List.cons_append, List.take_succ_cons, List.take_zero, List.drop_succ_cons, List.drop_zero, List.take_nil, List.drop_nil, List.reverse_cons, List.reverse_nil, List.map_cons, List.map_nil, Nat.zero_add, Nat.add_zero, frOf, den_nil, den_o0, ↓gd_tt, ↓gd_ff, ↓gd_tf, ↓gd_ft, gd_any, den_o1, kont_app, den_g, setv, Bool.not_true, Bool.not_false, den_skip, den_reg, den_regD, den_regP, den_A, den_regW, den_W, den_bad, evW, baseD, stBlk, touch, clear, untouched, updsW, List.all_cons, List.all_nil, List.contains_cons, List.contains_nil, Bool.not_true, Bool.not_false, Bool.or_false, Bool.or_self, Bool.false_or, Bool.true_or, Bool.or_true, den_seq, den_cond, den_block, den_exit, den_ret, den_b, den_xb, den_xo, den_xc, den_xu, den_rb, den_ro, den_rc, den_ru, den_u, den_loopU, finP_r, finP_n, finP_x, finE_r, finE_n, finE_x, ↓reduceIte, ↓e_box, ↓e_build, ↓e_bslice, ↓e_load, ↓e_store, ↓e_idxS, ↓e_idxV, ↓e_idxT, ↓e_fieldV, ↓e_eqv, ↓e_isNil, ↓e_b2s, ↓e_slcS, ↓e_arrAt, ↓e_ext, ↓e_app, ↓e_copy, ↓e_mv, ↓e_pick, ↓e_new, ↓e_nilc, ↓e_fld, ↓e_idxA, ↓e_bin, ↓e_eqb, ↓e_un, ↓e_conv, ↓e_strS, ↓e_s2b, ↓e_mkfn, ↓e_mksl, ↓e_slcA, ↓e_slcT, ↓e_call, ↓e_callp, ↓e_callv, ↓e_len, ↓e_lenA, ↓e_mx, ↓e_mn, ↓e_mkmap, ↓e_mput, ↓e_mlen, ↓e_mk8, ↓e_capN, ↓e_appZ, ↓u_onInt, ↓u_onBool, ↓u_onOpt0, ↓u_onOpt1, ↓u_binV, ↓u_srcOf, ↓u_srcSl, ↓binI, ↓binS, ↓fillE, ↓evRes, evA, Opd.ev, Sx.get, put, putO, del, dels, frD, memD, pickD, kills, views, newer, rd, rm, upd, splice, keysOf, kvOf, SV.cells?, SV.one, retOf, ↓u_callS, canLW, canV, canC, belowL, apH, apH1, eta, SV.ren, SV.renL, newOwn, targets, rms, Kind.isOwn, ren_bytes, byte_ren, ren_ints, flat_ints, len_ints, List.getElem?_nil, Option.getD_none, Option.getD_some, Nat.sub_zero, not_true_eq_false, not_false_eq_true, Nat.le_refl, take_bytes, take_ints, nlS_0, nlS_1, nlM_0, nlM_1, nlN_0, nlN_1, take_bys1, map_byte, len_bytes, flat_bytes, Int.toNat_natCast, Nat.mul_one, Int.cast_ofNat_Int]
  have e : bys (List.replicate k 0) = rep k [.int .u8 0] := by
    rw [rep_one]; simp only [bys, List.map_replicate]; rfl
  rw [e]
  refine ⟨by omega, by omega, by simp [rep_one], by omega, [(0, 0)], ?_, ?_⟩
  · rw [← e]; simp [EntM, compat, apartM, keysBelow, frEnt, geto, eta, idHs, rd, SV.ren, SV.renL, Option.getD_some, Option.getD_none, List.getElem?_cons_zero, List.getElem?_cons_succ, List.getElem?_nil, List.length_cons, List.length_nil, Nat.zero_add, Nat.add_zero, Nat.reduceAdd, Nat.reduceSub, Nat.reduceEqDiff, Nat.reduceLT, Nat.reduceLeDiff, ↓reduceIte, Kind.isOwn, List.take_succ_cons, List.take_zero, List.nil_append, List.cons_append, List.append_nil, List.take_nil, and_self, and_true, true_and, exists_eq_left', Option.some.injEq, Blk.mk.injEq, Kind.own.injEq, List.drop_zero, List.take_length, Nat.le_refl, ne_eq, not_false_eq_true, implies_true, List.forall_mem_cons, List.not_mem_nil, false_imp_iff, Bool.or_false, Bool.false_or, Bool.or_self, Bool.true_or, Bool.or_true, forall_const, reduceCtorEq, List.mem_cons, or_false, forall_eq_or_imp, forall_eq, Nat.succ_ne_self, exists_eq_left, Option.some_inj, byte_ren, one_byte, ren_bytes, len_bytes, take_bytes, take_ints, nlS_0, nlS_1, nlM_0, nlM_1, nlN_0, nlN_1, take_bys1, ren_ints, len_ints]
  · rfl
def gGrow : GS
  | [.val (.slice none 0 0), .int .i64 (.ofNat k)], [] => if 0 < k then if k ≤ 2 ^ 38 then some (.slc 0 0 1 0 none, [(0, ⟨.own 5, bys (List.replicate k 0)⟩)], 1) else none else none
  | _, _ => none
theorem gGrow_eq {k : Nat} : gGrow [.val (.slice none 0 0), .int .i64 (k : Int)] [] = if 0 < k then if k ≤ 2 ^ 38 then some (.slc 0 0 1 0 none, [(0, ⟨.own 5, bys (List.replicate k 0)⟩)], 1) else none else none := (rfl)
theorem gGrow_ok : FunS Tryd.prog tS 51 gGrow := by
  intro a0 m0 r m1 n1 h
  unfold gGrow at h
  split at h
  · split at h
    · split at h
      · cases h; exact ⟨f51 _ (by assumption) (by assumption), by simp [freshB]⟩
      · cases h
    · cases h
  · cases h
theorem tk_app {n : Nat} {a b : List UInt8} (h : n = a.length + b.length) : List.take n (bys a ++ bys b) = bys (a ++ b) := by
  rw [bytes_app]; exact List.take_of_length_le (by rw [len_bytes]; simp; omega)
def tabC : List (FuncId × GS) := [(51, gGrow)]
theorem tabC_ok : ∀ x ∈ tabC, FunS Tryd.prog tS x.1 x.2 := by
  intro x hx
  simp only [tabC, List.mem_cons, List.not_mem_nil, or_false] at hx
  rcases hx with rfl
  exact gGrow_ok
set_option maxHeartbeats 4000000 in
theorem f32_3 (p1 p2 p3 : List UInt8) (c : Option Nat) (c1 c2 c3 : Option Nat) (h0 : 0 < (p1 ++ p2 ++ p3).length) (hT : (p1 ++ p2 ++ p3).length ≤ 2 ^ 38) :
    Fun Tryd.prog tS 32 [.slc 0 0 1 3 c] [(0, ⟨.view, [.slc 1 0 1 p1.length c1, .slc 2 0 1 p2.length c2, .slc 3 0 1 p3.length c3]⟩), (1, ⟨.view, bys p1⟩), (2, ⟨.view, bys p2⟩), (3, ⟨.view, bys p3⟩)] 4 (.slc 4 0 1 (p1 ++ p2 ++ p3).length none) [(4, ⟨.own 5, bys (p1 ++ p2 ++ p3)⟩)] 5 := by
  refine fun_any none (callS tabC cF) (callS_ok tabC_ok cF_ok) chk32 (show 1 ≤ 36 by decide) (by decide) ?_
  unfold sf32
  have hT2 : (p1 ++ p2 ++ p3).length = p1.length + p2.length + p3.length := by simp [Nat.add_assoc]
  generalize hn : (p1 ++ p2 ++ p3).length = T at *
  have w1 : IntKind.i64.wrap ((p1.length : Nat) : Int) = ((p1.length : Nat) : Int) := wrap64_eq (by omega) (by omega)
  have v1 : ¬ ((p1.length : Nat) : Int) < 0 := by omega
  have w2 : IntKind.i64.wrap (((p1.length : Nat) : Int) + ((p2.length : Nat) : Int)) = ((p1.length + p2.length : Nat) : Int) := by rw [wrap64_eq (by omega) (by omega)]; omega
  have v2 : ¬ ((p1.length + p2.length : Nat) : Int) < 0 := by omega
  have w3 : IntKind.i64.wrap (((p1.length + p2.length : Nat) : Int) + ((p3.length : Nat) : Int)) = ((p1.length + p2.length + p3.length : Nat) : Int) := by rw [wrap64_eq (by omega) (by omega)]; omega
  have v3 : ¬ ((p1.length + p2.length + p3.length : Nat) : Int) < 0 := by omega
  have u0 : 0 < p1.length + p2.length + p3.length := by omega
  have u1 : p1.length + p2.length + p3.length ≤ 2 ^ 38 := by omega
  simp (config := { maxSteps := 1000000 }) only [tabC, ↓gGrow_eq, Int.zero_add, SV.flatL, SV.flat, Bool.and_true, Bool.and_self, Bool.true_and, beq_self_eq_true, Int.reduceGE, Int.reduceGT, ↓u_callAnd, Blk.mk.injEq, List.cons.injEq, SV.int.injEq, SV.bool.injEq, SV.tup.injEq, SV.agg.injEq, and_self, undef, Int.reduceBNe, Int.reduceBEq, Nat.reduceBNe, Nat.reduceBEq, ↓u_callX, lookF, setv, finO_r, finO_n, finO_x, again_n, again_x, again_r, lookT, eqPat, eqTag, reduceCtorEq, Nat.reduceEqDiff, Nat.reduceAdd, Nat.reduceSub, Nat.reduceMul, Nat.reduceDiv, Nat.reduceLeDiff, Nat.reduceLT, Int.reduceToNat, Int.reduceLT, Int.reduceLE, Int.reduceAdd, Int.reduceSub, Int.reduceMul, Int.reduceNeg, Int.reduceEq, Int.reduceNe, wrap64, false_imp_iff, true_imp_iff, eq_self, decide_true, decide_false, Int.cast_ofNat_Int,  true_and, and_true, false_and, and_false, imp_self, implies_true, List.getElem?_cons_zero, List.getElem?_cons_succ, List.length_cons, List.length_nil, List.append_nil, List.nil_append, List.cons_append, List.take_succ_cons, List.take_zero, List.drop_succ_cons, List.drop_zero, List.take_nil, List.drop_nil, List.reverse_cons, List.reverse_nil, List.map_cons, List.map_nil, Nat.zero_add, Nat.add_zero, frOf, den_nil, den_o0, ↓gd_tt, ↓gd_ff, ↓gd_tf, ↓gd_ft, gd_any, den_o1, kont_app, den_g, setv, Bool.not_true, Bool.not_false, den_skip, den_reg, den_regD, den_regP, den_A, den_regW, den_W, den_bad, evW, baseD, stBlk, touch, clear, untouched, updsW, List.all_cons, List.all_nil, List.contains_cons, List.contains_nil, Bool.not_true, Bool.not_false, Bool.or_false, Bool.or_self, Bool.false_or, Bool.true_or, Bool.or_true, den_seq, den_cond, den_block, den_exit, den_ret, den_b, den_xb, den_xo, den_xc, den_xu, den_rb, den_ro, den_rc, den_ru, den_u, den_loopU, finP_r, finP_n, finP_x, finE_r, finE_n, finE_x, ↓reduceIte, ↓e_box, ↓e_build, ↓e_bslice, ↓e_load, ↓e_store, ↓e_idxS, ↓e_idxV, ↓e_idxT, ↓e_fieldV, ↓e_eqv, ↓e_isNil, ↓e_b2s, ↓e_slcS, ↓e_arrAt, ↓e_ext, ↓e_app, ↓e_copy, ↓e_mv, ↓e_pick, ↓e_new, ↓e_nilc, ↓e_fld, ↓e_idxA, ↓e_bin, ↓e_eqb, ↓e_un, ↓e_conv, ↓e_strS, ↓e_s2b, ↓e_mkfn, ↓e_mksl, ↓e_slcA, ↓e_slcT, ↓e_call, ↓e_callp, ↓e_callv, ↓e_len, ↓e_lenA, ↓e_mx, ↓e_mn, ↓e_mkmap, ↓e_mput, ↓e_mlen, ↓e_mk8, ↓e_capN, ↓e_appZ, ↓u_onInt, ↓u_onBool, ↓u_onOpt0, ↓u_onOpt1, ↓u_binV, ↓u_srcOf, ↓u_srcSl, ↓binI, ↓binS, ↓fillE, ↓evRes, evA, Opd.ev, Sx.get, put, putO, del, dels, frD, memD, pickD, kills, views, newer, rd, rm, upd, splice, keysOf, kvOf, SV.cells?, SV.one, retOf, ↓u_callS, canLW, canV, canC, belowL, apH, apH1, eta, SV.ren, SV.renL, newOwn, targets, rms, Kind.isOwn, ren_bytes, byte_ren, ren_ints, flat_ints, len_ints, List.getElem?_nil, Option.getD_none, Option.getD_some, Nat.sub_zero, not_true_eq_false, not_false_eq_true, Nat.le_refl, take_bytes, take_ints, nlS_0, nlS_1, nlM_0, nlM_1, nlN_0, nlN_1, take_bys1, map_byte, len_bytes, flat_bytes, Int.toNat_natCast, Nat.mul_one, Int.cast_ofNat_Int]
  rw [den_loop]
  refine den_unroll (callS_ok tabC_ok cF_ok) (callT_point _ _) 4 ?_
  simp (config := { maxSteps := 1000000 }) only [tabC, ↓gGrow_eq, Int.zero_add, u0, u1, w1, v1, w2, v2, w3, v3, SV.flatL, SV.flat, Bool.and_true, Bool.and_self, Bool.true_and, beq_self_eq_true, Int.reduceGE, Int.reduceGT, ↓u_callAnd, Blk.mk.injEq, List.cons.injEq, SV.int.injEq, SV.bool.injEq, SV.tup.injEq, SV.agg.injEq, and_self, undef, Int.reduceBNe, Int.reduceBEq, Nat.reduceBNe, Nat.reduceBEq, ↓u_callX, lookF, setv, finO_r, finO_n, finO_x, again_n, again_x, again_r, lookT, eqPat, eqTag, reduceCtorEq, Nat.reduceEqDiff, Nat.reduceAdd, Nat.reduceSub, Nat.reduceMul, Nat.reduceDiv, Nat.reduceLeDiff, Nat.reduceLT, Int.reduceToNat, Int.reduceLT, Int.reduceLE, Int.reduceAdd, Int.reduceSub, Int.reduceMul, Int.reduceNeg, Int.reduceEq, Int.reduceNe, wrap64, false_imp_iff, true_imp_iff, eq_self, decide_true, decide_false, Int.cast_ofNat_Int,  true_and, and_true, false_and, and_false, imp_self, implies_true, List.getElem?_cons_zero, List.getElem?_cons_succ, List.length_cons, List.length_nil, List.append_nil, List.nil_append, List.cons_append, List.take_succ_cons, List.take_zero, List.drop_succ_cons, List.drop_zero, List.take_nil, List.drop_nil, List.reverse_cons, List.reverse_nil, List.map_cons, List.map_nil, Nat.zero_add, Nat.add_zero, frOf, den_nil, den_o0, ↓gd_tt, ↓gd_ff, ↓gd_tf, ↓gd_ft, gd_any, den_o1, kont_app, den_g, setv, Bool.not_true, Bool.not_false, den_skip, den_reg, den_regD, den_regP, den_A, den_regW, den_W, den_bad, evW, baseD, stBlk, touch, clear, untouched, updsW, List.all_cons, List.all_nil, List.contains_cons, List.contains_nil, Bool.not_true, Bool.not_false, Bool.or_false, Bool.or_self, Bool.false_or, Bool.true_or, Bool.or_true, den_seq, den_cond, den_block, den_exit, den_ret, den_b, den_xb, den_xo, den_xc, den_xu, den_rb, den_ro, den_rc, den_ru, den_u, den_loopU, finP_r, finP_n, finP_x, finE_r, finE_n, finE_x, ↓reduceIte, ↓e_box, ↓e_build, ↓e_bslice, ↓e_load, ↓e_store, ↓e_idxS, ↓e_idxV, ↓e_idxT, ↓e_fieldV, ↓e_eqv, ↓e_isNil, ↓e_b2s, ↓e_slcS, ↓e_arrAt, ↓e_ext, ↓e_app, ↓e_copy, ↓e_mv, ↓e_pick, ↓e_new, ↓e_nilc, ↓e_fld, ↓e_idxA, ↓e_bin, ↓e_eqb, ↓e_un, ↓e_conv, ↓e_strS, ↓e_s2b, ↓e_mkfn, ↓e_mksl, ↓e_slcA, ↓e_slcT, ↓e_call, ↓e_callp, ↓e_callv, ↓e_len, ↓e_lenA, ↓e_mx, ↓e_mn, ↓e_mkmap, ↓e_mput, ↓e_mlen, ↓e_mk8, ↓e_capN, ↓e_appZ, ↓u_onInt, ↓u_onBool, ↓u_onOpt0, ↓u_onOpt1, ↓u_binV, ↓u_srcOf, ↓u_srcSl, ↓binI, ↓binS, ↓fillE, ↓evRes, evA, Opd.ev, Sx.get, put, putO, del, dels, frD, memD, pickD, kills, views, newer, rd, rm, upd, splice, keysOf, kvOf, SV.cells?, SV.one, retOf, ↓u_callS, canLW, canV, canC, belowL, apH, apH1, eta, SV.ren, SV.renL, newOwn, targets, rms, Kind.isOwn, ren_bytes, byte_ren, ren_ints, flat_ints, len_ints, List.getElem?_nil, Option.getD_none, Option.getD_some, Nat.sub_zero, not_true_eq_false, not_false_eq_true, Nat.le_refl, take_bytes, take_ints, nlS_0, nlS_1, nlM_0, nlM_1, nlN_0, nlN_1, take_bys1, map_byte, len_bytes, flat_bytes, Int.toNat_natCast, Nat.mul_one, Int.cast_ofNat_Int]
  rw [den_loop]
  refine den_unroll (callS_ok tabC_ok cF_ok) (callT_point _ _) 4 ?_
  simp (config := { maxSteps := 1000000 }) only [tabC, ↓gGrow_eq, Int.zero_add, u0, u1, w1, v1, w2, v2, w3, v3, SV.flatL, SV.flat, Bool.and_true, Bool.and_self, Bool.true_and, beq_self_eq_true, Int.reduceGE, Int.reduceGT, ↓u_callAnd, Blk.mk.injEq, List.cons.injEq, SV.int.injEq, SV.bool.injEq, SV.tup.injEq, SV.agg.injEq, and_self, undef, Int.reduceBNe, Int.reduceBEq, Nat.reduceBNe, Nat.reduceBEq, ↓u_callX, lookF, setv, finO_r, finO_n, finO_x, again_n, again_x, again_r, lookT, eqPat, eqTag, reduceCtorEq, Nat.reduceEqDiff, Nat.reduceAdd, Nat.reduceSub, Nat.reduceMul, Nat.reduceDiv, Nat.reduceLeDiff, Nat.reduceLT, Int.reduceToNat, Int.reduceLT, Int.reduceLE, Int.reduceAdd, Int.reduceSub, Int.reduceMul, Int.reduceNeg, Int.reduceEq, Int.reduceNe, wrap64, false_imp_iff, true_imp_iff, eq_self, decide_true, decide_false, Int.cast_ofNat_Int,  true_and, and_true, false_and, and_false, imp_self, implies_true, List.getElem?_cons_zero, List.getElem?_cons_succ, List.length_cons, List.length_nil, List.append_nil, List.nil_append, List.cons_append, List.take_succ_cons, List.take_zero, List.drop_succ_cons, List.drop_zero, List.take_nil, List.drop_nil, List.reverse_cons, List.reverse_nil, List.map_cons, List.map_nil, Nat.zero_add, Nat.add_zero, frOf, den_nil, den_o0, ↓gd_tt, ↓gd_ff, ↓gd_tf, ↓gd_ft, gd_any, den_o1, kont_app, den_g, setv, Bool.not_true, Bool.not_false, den_skip, den_reg, den_regD, den_regP, den_A, den_regW, den_W, den_bad, evW, baseD, stBlk, touch, clear, untouched, updsW, List.all_cons, List.all_nil, List.contains_cons, List.contains_nil, Bool.not_true, Bool.not_false, Bool.or_false, Bool.or_self, Bool.false_or, Bool.true_or, Bool.or_true, den_seq, den_cond, den_block, den_exit, den_ret, den_b, den_xb, den_xo, den_xc, den_xu, den_rb, den_ro, den_rc, den_ru, den_u, den_loopU, finP_r, finP_n, finP_x, finE_r, finE_n, finE_x, ↓reduceIte, ↓e_box, ↓e_build, ↓e_bslice, ↓e_load, ↓e_store, ↓e_idxS, ↓e_idxV, ↓e_idxT, ↓e_fieldV, ↓e_eqv, ↓e_isNil, ↓e_b2s, ↓e_slcS, ↓e_arrAt, ↓e_ext, ↓e_app, ↓e_copy, ↓e_mv, ↓e_pick, ↓e_new, ↓e_nilc, ↓e_fld, ↓e_idxA, ↓e_bin, ↓e_eqb, ↓e_un, ↓e_conv, ↓e_strS, ↓e_s2b, ↓e_mkfn, ↓e_mksl, ↓e_slcA, ↓e_slcT, ↓e_call, ↓e_callp, ↓e_callv, ↓e_len, ↓e_lenA, ↓e_mx, ↓e_mn, ↓e_mkmap, ↓e_mput, ↓e_mlen, ↓e_mk8, ↓e_capN, ↓e_appZ, ↓u_onInt, ↓u_onBool, ↓u_onOpt0, ↓u_onOpt1, ↓u_binV, ↓u_srcOf, ↓u_srcSl, ↓binI, ↓binS, ↓fillE, ↓evRes, evA, Opd.ev, Sx.get, put, putO, del, dels, frD, memD, pickD, kills, views, newer, rd, rm, upd, splice, keysOf, kvOf, SV.cells?, SV.one, retOf, ↓u_callS, canLW, canV, canC, belowL, apH, apH1, eta, SV.ren, SV.renL, newOwn, targets, rms, Kind.isOwn, ren_bytes, byte_ren, ren_ints, flat_ints, len_ints, List.getElem?_nil, Option.getD_none, Option.getD_some, Nat.sub_zero, not_true_eq_false, not_false_eq_true, Nat.le_refl, take_bytes, take_ints, nlS_0, nlS_1, nlM_0, nlM_1, nlN_0, nlN_1, take_bys1, map_byte, len_bytes, flat_bytes, Int.toNat_natCast, Nat.mul_one, Int.cast_ofNat_Int]

  have hb : bys (p1) = bys p1 := rfl
  rw [tk_app (a := p1) (b := p2) (by simp; try omega)]
  simp only [bytes_app]
  have hs : ∀ x : Nat, x ≤ x := Nat.le_refl
  refine ⟨?_, ?_, ?_, ?_, ?_, ?_, ?_, ?_, [(0, 0), (1, 0), (2, 0), (3, 0), (7, 0)], by simp [hT2, EntM, compat, apartM, keysBelow, frEnt, geto, eta, idHs, rd, SV.ren, SV.renL, Option.getD_some, Option.getD_none, List.getElem?_cons_zero, List.getElem?_cons_succ, List.getElem?_nil, List.length_cons, List.length_nil, Nat.zero_add, Nat.add_zero, Nat.reduceAdd, Nat.reduceSub, Nat.reduceEqDiff, Nat.reduceLT, Nat.reduceLeDiff, ↓reduceIte, Kind.isOwn, List.take_succ_cons, List.take_zero, List.nil_append, List.cons_append, List.append_nil, List.take_nil, and_self, and_true, true_and, exists_eq_left', Option.some.injEq, Blk.mk.injEq, Kind.own.injEq, List.drop_zero, List.take_length, Nat.le_refl, ne_eq, not_false_eq_true, implies_true, List.forall_mem_cons, List.not_mem_nil, false_imp_iff, Bool.or_false, Bool.false_or, Bool.or_self, Bool.true_or, Bool.or_true, forall_const, reduceCtorEq, List.mem_cons, or_false, forall_eq_or_imp, forall_eq, Nat.succ_ne_self, exists_eq_left, Option.some_inj, byte_ren, one_byte, ren_bytes, len_bytes, take_bytes, take_ints, nlS_0, nlS_1, nlM_0, nlM_1, nlN_0, nlN_1, take_bys1, ren_ints, len_ints], by simp [hT2, EntM, compat, apartM, keysBelow, frEnt, geto, eta, idHs, rd, SV.ren, SV.renL, Option.getD_some, Option.getD_none, List.getElem?_cons_zero, List.getElem?_cons_succ, List.getElem?_nil, List.length_cons, List.length_nil, Nat.zero_add, Nat.add_zero, Nat.reduceAdd, Nat.reduceSub, Nat.reduceEqDiff, Nat.reduceLT, Nat.reduceLeDiff, ↓reduceIte, Kind.isOwn, List.take_succ_cons, List.take_zero, List.nil_append, List.cons_append, List.append_nil, List.take_nil, and_self, and_true, true_and, exists_eq_left', Option.some.injEq, Blk.mk.injEq, Kind.own.injEq, List.drop_zero, List.take_length, Nat.le_refl, ne_eq, not_false_eq_true, implies_true, List.forall_mem_cons, List.not_mem_nil, false_imp_iff, Bool.or_false, Bool.false_or, Bool.or_self, Bool.true_or, Bool.or_true, forall_const, reduceCtorEq, List.mem_cons, or_false, forall_eq_or_imp, forall_eq, Nat.succ_ne_self, exists_eq_left, Option.some_inj, byte_ren, one_byte, ren_bytes, len_bytes, take_bytes, take_ints, nlS_0, nlS_1, nlM_0, nlM_1, nlN_0, nlN_1, take_bys1, ren_ints, len_ints]⟩ <;> first | omega | (simp only [List.length_append, len_bytes]; omega)
set_option maxHeartbeats 4000000 in
theorem f32_4 (p1 p2 p3 p4 : List UInt8) (c : Option Nat) (c1 c2 c3 c4 : Option Nat) (h0 : 0 < (p1 ++ p2 ++ p3 ++ p4).length) (hT : (p1 ++ p2 ++ p3 ++ p4).length ≤ 2 ^ 38) :
    Fun Tryd.prog tS 32 [.slc 0 0 1 4 c] [(0, ⟨.view, [.slc 1 0 1 p1.length c1, .slc 2 0 1 p2.length c2, .slc 3 0 1 p3.length c3, .slc 4 0 1 p4.length c4]⟩), (1, ⟨.view, bys p1⟩), (2, ⟨.view, bys p2⟩), (3, ⟨.view, bys p3⟩), (4, ⟨.view, bys p4⟩)] 5 (.slc 5 0 1 (p1 ++ p2 ++ p3 ++ p4).length none) [(5, ⟨.own 5, bys (p1 ++ p2 ++ p3 ++ p4)⟩)] 6 := by
  refine fun_any none (callS tabC cF) (callS_ok tabC_ok cF_ok) chk32 (show 1 ≤ 36 by decide) (by decide) ?_
  unfold sf32
  have hT2 : (p1 ++ p2 ++ p3 ++ p4).length = p1.length + p2.length + p3.length + p4.length := by simp [Nat.add_assoc]
  generalize hn : (p1 ++ p2 ++ p3 ++ p4).length = T at *
  have w1 : IntKind.i64.wrap ((p1.length : Nat) : Int) = ((p1.length : Nat) : Int) := wrap64_eq (by omega) (by omega)
  have v1 : ¬ ((p1.length : Nat) : Int) < 0 := by omega
  have w2 : IntKind.i64.wrap (((p1.length : Nat) : Int) + ((p2.length : Nat) : Int)) = ((p1.length + p2.length : Nat) : Int) := by rw [wrap64_eq (by omega) (by omega)]; omega
  have v2 : ¬ ((p1.length + p2.length : Nat) : Int) < 0 := by omega
  have w3 : IntKind.i64.wrap (((p1.length + p2.length : Nat) : Int) + ((p3.length : Nat) : Int)) = ((p1.length + p2.length + p3.length : Nat) : Int) := by rw [wrap64_eq (by omega) (by omega)]; omega
  have v3 : ¬ ((p1.length + p2.length + p3.length : Nat) : Int) < 0 := by omega
  have w4 : IntKind.i64.wrap (((p1.length + p2.length + p3.length : Nat) : Int) + ((p4.length : Nat) : Int)) = ((p1.length + p2.length + p3.length + p4.length : Nat) : Int) := by rw [wrap64_eq (by omega) (by omega)]; omega
  have v4 : ¬ ((p1.length + p2.length + p3.length + p4.length : Nat) : Int) < 0 := by omega
  have u0 : 0 < p1.length + p2.length + p3.length + p4.length := by omega
  have u1 : p1.length + p2.length + p3.length + p4.length ≤ 2 ^ 38 := by omega
  simp (config := { maxSteps := 1000000 }) only [tabC, ↓gGrow_eq, Int.zero_add, SV.flatL, SV.flat, Bool.and_true, Bool.and_self, Bool.true_and, beq_self_eq_true, Int.reduceGE, Int.reduceGT, ↓u_callAnd, Blk.mk.injEq, List.cons.injEq, SV.int.injEq, SV.bool.injEq, SV.tup.injEq, SV.agg.injEq, and_self, undef, Int.reduceBNe, Int.reduceBEq, Nat.reduceBNe, Nat.reduceBEq, ↓u_callX, lookF, setv, finO_r, finO_n, finO_x, again_n, again_x, again_r, lookT, eqPat, eqTag, reduceCtorEq, Nat.reduceEqDiff, Nat.reduceAdd, Nat.reduceSub, Nat.reduceMul, Nat.reduceDiv, Nat.reduceLeDiff, Nat.reduceLT, Int.reduceToNat, Int.reduceLT, Int.reduceLE, Int.reduceAdd, Int.reduceSub, Int.reduceMul, Int.reduceNeg, Int.reduceEq, Int.reduceNe, wrap64, false_imp_iff, true_imp_iff, eq_self, decide_true, decide_false, Int.cast_ofNat_Int,  true_and, and_true, false_and, and_false, imp_self, implies_true, List.getElem?_cons_zero, List.getElem?_cons_succ, List.length_cons, List.length_nil, List.append_nil, List.nil_append, List.cons_append, List.take_succ_cons, List.take_zero, List.drop_succ_cons, List.drop_zero, List.take_nil, List.drop_nil, List.reverse_cons, List.reverse_nil, List.map_cons, List.map_nil, Nat.zero_add, Nat.add_zero, frOf, den_nil, den_o0, ↓gd_tt, ↓gd_ff, ↓gd_tf, ↓gd_ft, gd_any, den_o1, kont_app, den_g, setv, Bool.not_true, Bool.not_false, den_skip, den_reg, den_regD, den_regP, den_A, den_regW, den_W, den_bad, evW, baseD, stBlk, touch, clear, untouched, updsW, List.all_cons, List.all_nil, List.contains_cons, List.contains_nil, Bool.not_true, Bool.not_false, Bool.or_false, Bool.or_self, Bool.false_or, Bool.true_or, Bool.or_true, den_seq, den_cond, den_block, den_exit, den_ret, den_b, den_xb, den_xo, den_xc, den_xu, den_rb, den_ro, den_rc, den_ru, den_u, den_loopU, finP_r, finP_n, finP_x, finE_r, finE_n, finE_x, ↓reduceIte, ↓e_box, ↓e_build, ↓e_bslice, ↓e_load, ↓e_store, ↓e_idxS, ↓e_idxV, ↓e_idxT, ↓e_fieldV, ↓e_eqv, ↓e_isNil, ↓e_b2s, ↓e_slcS, ↓e_arrAt, ↓e_ext, ↓e_app, ↓e_copy, ↓e_mv, ↓e_pick, ↓e_new, ↓e_nilc, ↓e_fld, ↓e_idxA, ↓e_bin, ↓e_eqb, ↓e_un, ↓e_conv, ↓e_strS, ↓e_s2b, ↓e_mkfn, ↓e_mksl, ↓e_slcA, ↓e_slcT, ↓e_call, ↓e_callp, ↓e_callv, ↓e_len, ↓e_lenA, ↓e_mx, ↓e_mn, ↓e_mkmap, ↓e_mput, ↓e_mlen, ↓e_mk8, ↓e_capN, ↓e_appZ, ↓u_onInt, ↓u_onBool, ↓u_onOpt0, ↓u_onOpt1, ↓u_binV, ↓u_srcOf, ↓u_srcSl, ↓binI, ↓binS, ↓fillE, ↓evRes, evA, Opd.ev, Sx.get, put, putO, del, dels, frD, memD, pickD, kills, views, newer, rd, rm, upd, splice, keysOf, kvOf, SV.cells?, SV.one, retOf, ↓u_callS, canLW, canV, canC, belowL, apH, apH1, eta, SV.ren, SV.renL, newOwn, targets, rms, Kind.isOwn, ren_bytes, byte_ren, ren_ints, flat_ints, len_ints, List.getElem?_nil, Option.getD_none, Option.getD_some, Nat.sub_zero, not_true_eq_false, not_false_eq_true, Nat.le_refl, take_bytes, take_ints, nlS_0, nlS_1, nlM_0, nlM_1, nlN_0, nlN_1, take_bys1, map_byte, len_bytes, flat_bytes, Int.toNat_natCast, Nat.mul_one, Int.cast_ofNat_Int]
  rw [den_loop]
  refine den_unroll (callS_ok tabC_ok cF_ok) (callT_point _ _) 5 ?_
  simp (config := { maxSteps := 1000000 }) only [tabC, ↓gGrow_eq, Int.zero_add, u0, u1, w1, v1, w2, v2, w3, v3, w4, v4, SV.flatL, SV.flat, Bool.and_true, Bool.and_self, Bool.true_and, beq_self_eq_true, Int.reduceGE, Int.reduceGT, ↓u_callAnd, Blk.mk.injEq, List.cons.injEq, SV.int.injEq, SV.bool.injEq, SV.tup.injEq, SV.agg.injEq, and_self, undef, Int.reduceBNe, Int.reduceBEq, Nat.reduceBNe, Nat.reduceBEq, ↓u_callX, lookF, setv, finO_r, finO_n, finO_x, again_n, again_x, again_r, lookT, eqPat, eqTag, reduceCtorEq, Nat.reduceEqDiff, Nat.reduceAdd, Nat.reduceSub, Nat.reduceMul, Nat.reduceDiv, Nat.reduceLeDiff, Nat.reduceLT, Int.reduceToNat, Int.reduceLT, Int.reduceLE, Int.reduceAdd, Int.reduceSub, Int.reduceMul, Int.reduceNeg, Int.reduceEq, Int.reduceNe, wrap64, false_imp_iff, true_imp_iff, eq_self, decide_true, decide_false, Int.cast_ofNat_Int,  true_and, and_true, false_and, and_false, imp_self, implies_true, List.getElem?_cons_zero, List.getElem?_cons_succ, List.length_cons, List.length_nil, List.append_nil, List.nil_append, List.cons_append, List.take_succ_cons, List.take_zero, List.drop_succ_cons, List.drop_zero, List.take_nil, List.drop_nil, List.reverse_cons, List.reverse_nil, List.map_cons, List.map_nil, Nat.zero_add, Nat.add_zero, frOf, den_nil, den_o0, ↓gd_tt, ↓gd_ff, ↓gd_tf, ↓gd_ft, gd_any, den_o1, kont_app, den_g, setv, Bool.not_true, Bool.not_false, den_skip, den_reg, den_regD, den_regP, den_A, den_regW, den_W, den_bad, evW, baseD, stBlk, touch, clear, untouched, updsW, List.all_cons, List.all_nil, List.contains_cons, List.contains_nil, Bool.not_true, Bool.not_false, Bool.or_false, Bool.or_self, Bool.false_or, Bool.true_or, Bool.or_true, den_seq, den_cond, den_block, den_exit, den_ret, den_b, den_xb, den_xo, den_xc, den_xu, den_rb, den_ro, den_rc, den_ru, den_u, den_loopU, finP_r, finP_n, finP_x, finE_r, finE_n, finE_x, ↓reduceIte, ↓e_box, ↓e_build, ↓e_bslice, ↓e_load, ↓e_store, ↓e_idxS, ↓e_idxV, ↓e_idxT, ↓e_fieldV, ↓e_eqv, ↓e_isNil, ↓e_b2s, ↓e_slcS, ↓e_arrAt, ↓e_ext, ↓e_app, ↓e_copy, ↓e_mv, ↓e_pick, ↓e_new, ↓e_nilc, ↓e_fld, ↓e_idxA, ↓e_bin, ↓e_eqb, ↓e_un, ↓e_conv, ↓e_strS, ↓e_s2b, ↓e_mkfn, ↓e_mksl, ↓e_slcA, ↓e_slcT, ↓e_call, ↓e_callp, ↓e_callv, ↓e_len, ↓e_lenA, ↓e_mx, ↓e_mn, ↓e_mkmap, ↓e_mput, ↓e_mlen, ↓e_mk8, ↓e_capN, ↓e_appZ, ↓u_onInt, ↓u_onBool, ↓u_onOpt0, ↓u_onOpt1, ↓u_binV, ↓u_srcOf, ↓u_srcSl, ↓binI, ↓binS, ↓fillE, ↓evRes, evA, Opd.ev, Sx.get, put, putO, del, dels, frD, memD, pickD, kills, views, newer, rd, rm, upd, splice, keysOf, kvOf, SV.cells?, SV.one, retOf, ↓u_callS, canLW, canV, canC, belowL, apH, apH1, eta, SV.ren, SV.renL, newOwn, targets, rms, Kind.isOwn, ren_bytes, byte_ren, ren_ints, flat_ints, len_ints, List.getElem?_nil, Option.getD_none, Option.getD_some, Nat.sub_zero, not_true_eq_false, not_false_eq_true, Nat.le_refl, take_bytes, take_ints, nlS_0, nlS_1, nlM_0, nlM_1, nlN_0, nlN_1, take_bys1, map_byte, len_bytes, flat_bytes, Int.toNat_natCast, Nat.mul_one, Int.cast_ofNat_Int]
  rw [den_loop]
  refine den_unroll (callS_ok tabC_ok cF_ok) (callT_point _ _) 5 ?_
  simp (config := { maxSteps := 1000000 }) only [tabC, ↓gGrow_eq, Int.zero_add, u0, u1, w1, v1, w2, v2, w3, v3, w4, v4, SV.flatL, SV.flat, Bool.and_true, Bool.and_self, Bool.true_and, beq_self_eq_true, Int.reduceGE, Int.reduceGT, ↓u_callAnd, Blk.mk.injEq, List.cons.injEq, SV.int.injEq, SV.bool.injEq, SV.tup.injEq, SV.agg.injEq, and_self, undef, Int.reduceBNe, Int.reduceBEq, Nat.reduceBNe, Nat.reduceBEq, ↓u_callX, lookF, setv, finO_r, finO_n, finO_x, again_n, again_x, again_r, lookT, eqPat, eqTag, reduceCtorEq, Nat.reduceEqDiff, Nat.reduceAdd, Nat.reduceSub, Nat.reduceMul, Nat.reduceDiv, Nat.reduceLeDiff, Nat.reduceLT, Int.reduceToNat, Int.reduceLT, Int.reduceLE, Int.reduceAdd, Int.reduceSub, Int.reduceMul, Int.reduceNeg, Int.reduceEq, Int.reduceNe, wrap64, false_imp_iff, true_imp_iff, eq_self, decide_true, decide_false, Int.cast_ofNat_Int,  true_and, and_true, false_and, and_false, imp_self, implies_true, List.getElem?_cons_zero, List.getElem?_cons_succ, List.length_cons, List.length_nil, List.append_nil, List.nil_append, List.cons_append, List.take_succ_cons, List.take_zero, List.drop_succ_cons, List.drop_zero, List.take_nil, List.drop_nil, List.reverse_cons, List.reverse_nil, List.map_cons, List.map_nil, Nat.zero_add, Nat.add_zero, frOf, den_nil, den_o0, ↓gd_tt, ↓gd_ff, ↓gd_tf, ↓gd_ft, gd_any, den_o1, kont_app, den_g, setv, Bool.not_true, Bool.not_false, den_skip, den_reg, den_regD, den_regP, den_A, den_regW, den_W, den_bad, evW, baseD, stBlk, touch, clear, untouched, updsW, List.all_cons, List.all_nil, List.contains_cons, List.contains_nil, Bool.not_true, Bool.not_false, Bool.or_false, Bool.or_self, Bool.false_or, Bool.true_or, Bool.or_true, den_seq, den_cond, den_block, den_exit, den_ret, den_b, den_xb, den_xo, den_xc, den_xu, den_rb, den_ro, den_rc, den_ru, den_u, den_loopU, finP_r, finP_n, finP_x, finE_r, finE_n, finE_x, ↓reduceIte, ↓e_box, ↓e_build, ↓e_bslice, ↓e_load, ↓e_store, ↓e_idxS, ↓e_idxV, ↓e_idxT, ↓e_fieldV, ↓e_eqv, ↓e_isNil, ↓e_b2s, ↓e_slcS, ↓e_arrAt, ↓e_ext, ↓e_app, ↓e_copy, ↓e_mv, ↓e_pick, ↓e_new, ↓e_nilc, ↓e_fld, ↓e_idxA, ↓e_bin, ↓e_eqb, ↓e_un, ↓e_conv, ↓e_strS, ↓e_s2b, ↓e_mkfn, ↓e_mksl, ↓e_slcA, ↓e_slcT, ↓e_call, ↓e_callp, ↓e_callv, ↓e_len, ↓e_lenA, ↓e_mx, ↓e_mn, ↓e_mkmap, ↓e_mput, ↓e_mlen, ↓e_mk8, ↓e_capN, ↓e_appZ, ↓u_onInt, ↓u_onBool, ↓u_onOpt0, ↓u_onOpt1, ↓u_binV, ↓u_srcOf, ↓u_srcSl, ↓binI, ↓binS, ↓fillE, ↓evRes, evA, Opd.ev, Sx.get, put, putO, del, dels, frD, memD, pickD, kills, views, newer, rd, rm, upd, splice, keysOf, kvOf, SV.cells?, SV.one, retOf, ↓u_callS, canLW, canV, canC, belowL, apH, apH1, eta, SV.ren, SV.renL, newOwn, targets, rms, Kind.isOwn, ren_bytes, byte_ren, ren_ints, flat_ints, len_ints, List.getElem?_nil, Option.getD_none, Option.getD_some, Nat.sub_zero, not_true_eq_false, not_false_eq_true, Nat.le_refl, take_bytes, take_ints, nlS_0, nlS_1, nlM_0, nlM_1, nlN_0, nlN_1, take_bys1, map_byte, len_bytes, flat_bytes, Int.toNat_natCast, Nat.mul_one, Int.cast_ofNat_Int]

  have hb : bys (p1) = bys p1 := rfl
  rw [tk_app (a := p1) (b := p2) (by simp; try omega), tk_app (a := p1 ++ p2) (b := p3) (by simp; try omega)]
  simp only [bytes_app]
  have hs : ∀ x : Nat, x ≤ x := Nat.le_refl
  refine ⟨?_, ?_, ?_, ?_, ?_, ?_, ?_, ?_, ?_, ?_, ?_, [(0, 0), (1, 0), (2, 0), (3, 0), (4, 0), (9, 0)], by simp [hT2, EntM, compat, apartM, keysBelow, frEnt, geto, eta, idHs, rd, SV.ren, SV.renL, Option.getD_some, Option.getD_none, List.getElem?_cons_zero, List.getElem?_cons_succ, List.getElem?_nil, List.length_cons, List.length_nil, Nat.zero_add, Nat.add_zero, Nat.reduceAdd, Nat.reduceSub, Nat.reduceEqDiff, Nat.reduceLT, Nat.reduceLeDiff, ↓reduceIte, Kind.isOwn, List.take_succ_cons, List.take_zero, List.nil_append, List.cons_append, List.append_nil, List.take_nil, and_self, and_true, true_and, exists_eq_left', Option.some.injEq, Blk.mk.injEq, Kind.own.injEq, List.drop_zero, List.take_length, Nat.le_refl, ne_eq, not_false_eq_true, implies_true, List.forall_mem_cons, List.not_mem_nil, false_imp_iff, Bool.or_false, Bool.false_or, Bool.or_self, Bool.true_or, Bool.or_true, forall_const, reduceCtorEq, List.mem_cons, or_false, forall_eq_or_imp, forall_eq, Nat.succ_ne_self, exists_eq_left, Option.some_inj, byte_ren, one_byte, ren_bytes, len_bytes, take_bytes, take_ints, nlS_0, nlS_1, nlM_0, nlM_1, nlN_0, nlN_1, take_bys1, ren_ints, len_ints], by simp [hT2, EntM, compat, apartM, keysBelow, frEnt, geto, eta, idHs, rd, SV.ren, SV.renL, Option.getD_some, Option.getD_none, List.getElem?_cons_zero, List.getElem?_cons_succ, List.getElem?_nil, List.length_cons, List.length_nil, Nat.zero_add, Nat.add_zero, Nat.reduceAdd, Nat.reduceSub, Nat.reduceEqDiff, Nat.reduceLT, Nat.reduceLeDiff, ↓reduceIte, Kind.isOwn, List.take_succ_cons, List.take_zero, List.nil_append, List.cons_append, List.append_nil, List.take_nil, and_self, and_true, true_and, exists_eq_left', Option.some.injEq, Blk.mk.injEq, Kind.own.injEq, List.drop_zero, List.take_length, Nat.le_refl, ne_eq, not_false_eq_true, implies_true, List.forall_mem_cons, List.not_mem_nil, false_imp_iff, Bool.or_false, Bool.false_or, Bool.or_self, Bool.true_or, Bool.or_true, forall_const, reduceCtorEq, List.mem_cons, or_false, forall_eq_or_imp, forall_eq, Nat.succ_ne_self, exists_eq_left, Option.some_inj, byte_ren, one_byte, ren_bytes, len_bytes, take_bytes, take_ints, nlS_0, nlS_1, nlM_0, nlM_1, nlN_0, nlN_1, take_bys1, ren_ints, len_ints]⟩ <;> first | omega | (simp only [List.length_append, len_bytes]; omega)
def gCat : GS
  | [.slc 0 0 1 3 c], [(0, ⟨.view, [.slc 1 0 1 l1 c1, .slc 2 0 1 l2 c2, .slc 3 0 1 l3 c3]⟩), (1, ⟨.view, b1⟩), (2, ⟨.view, b2⟩), (3, ⟨.view, b3⟩)] => match unB b1, unB b2, unB b3 with
    | some p1, some p2, some p3 => if l1 = p1.length ∧ l2 = p2.length ∧ l3 = p3.length ∧ 0 < (p1 ++ p2 ++ p3).length ∧ (p1 ++ p2 ++ p3).length ≤ 2 ^ 38 then some (.slc 4 0 1 (p1 ++ p2 ++ p3).length none, [(4, ⟨.own 5, bys (p1 ++ p2 ++ p3)⟩)], 5) else none
    | _, _, _ => none
  | [.slc 0 0 1 4 c], [(0, ⟨.view, [.slc 1 0 1 l1 c1, .slc 2 0 1 l2 c2, .slc 3 0 1 l3 c3, .slc 4 0 1 l4 c4]⟩), (1, ⟨.view, b1⟩), (2, ⟨.view, b2⟩), (3, ⟨.view, b3⟩), (4, ⟨.view, b4⟩)] => match unB b1, unB b2, unB b3, unB b4 with
    | some p1, some p2, some p3, some p4 => if l1 = p1.length ∧ l2 = p2.length ∧ l3 = p3.length ∧ l4 = p4.length ∧ 0 < (p1 ++ p2 ++ p3 ++ p4).length ∧ (p1 ++ p2 ++ p3 ++ p4).length ≤ 2 ^ 38 then some (.slc 5 0 1 (p1 ++ p2 ++ p3 ++ p4).length none, [(5, ⟨.own 5, bys (p1 ++ p2 ++ p3 ++ p4)⟩)], 6) else none
    | _, _, _, _ => none
  | _, _ => none
theorem gCat_ok : FunS Tryd.prog tS 32 gCat := by
  intro a0 m0 r m1 n1 h
  unfold gCat at h
  split at h
  · split at h
    · rename_i h1 h2 h3
      split at h
      · rename_i hc
        cases h
        obtain ⟨rfl, rfl, rfl, k1, k2⟩ := hc
        rw [unB_some h1, unB_some h2, unB_some h3]
        exact ⟨f32_3 _ _ _ _ _ _ _ k1 k2, by simp [freshB]⟩
      · cases h
    · cases h
  · split at h
    · rename_i h1 h2 h3 h4
      split at h
      · rename_i hc
        cases h
        obtain ⟨rfl, rfl, rfl, rfl, k1, k2⟩ := hc
        rw [unB_some h1, unB_some h2, unB_some h3, unB_some h4]
        exact ⟨f32_4 _ _ _ _ _ _ _ _ _ k1 k2, by simp [freshB]⟩
      · cases h
    · cases h
  · cases h
end Go.Proofs.YtkfbkooobfepeaaDoor

/- The statements of custodians: what they are. -/
namespace Go.Proofs.YtkfbkooobfepeaaDoor
open Go Go.Sx Sf
set_option maxRecDepth 100000
set_option linter.unusedSimpArgs false
set_option linter.unusedVariables false

variable {tS : List (Nat × List SV)}
def tabD : List (FuncId × GS) := [(31, gInts), (32, gCat)]
theorem tabD_ok : ∀ x ∈ tabD, FunS Tryd.prog tS x.1 x.2 := by
  intro x hx
  simp only [tabD, List.mem_cons, List.not_mem_nil, or_false] at hx
  rcases hx with rfl | rfl
  · exact gInts_ok
  · exact gCat_ok
def custody : List UInt8 := [99, 117, 115, 116, 111, 100, 121]
def stmt (d : List UInt8) (e r v : Int) (c : List UInt8) : List UInt8 := custody ++ encIs [v, e, r] ++ d ++ c
theorem encIs3 (x y z : Int) : (encIs [x, y, z]).length ≤ 36 := by
  have := encI_len x
  have := encI_len y
  have := encI_len z
  have := encI_len (([x, y, z] : List Int).length : Int)
  simp only [encIs, encL, List.length_append, List.length_nil]; omega
theorem custody_cons (x : List UInt8) : SV.int .u8 99 :: SV.int .u8 117 :: SV.int .u8 115 :: SV.int .u8 116 :: SV.int .u8 111 :: SV.int .u8 100 :: SV.int .u8 121 :: bys x = bys (custody ++ x) := (rfl)
theorem f24 (d : List UInt8) (e r v : Int) (c : List UInt8) (hd : d.length = 16) (hc : c.length = 16) :
    Fun Tryd.prog tS 24 [.agg (bys d), .int .i64 e, .int .i64 r, .int .i64 v, .agg (bys c)] [] 0 (.str (stmt d e r v c)) [] 0 := by
  refine fun_any none (callS tabD cF) (callS_ok tabD_ok cF_ok) chk24 (show 5 ≤ 26 by decide) (by decide) ?_
  unfold sf24
  have h3 : [SV.int .i64 v, SV.int .i64 e, SV.int .i64 r] = ints [v, e, r] := rfl
  have hl := encIs3 v e r
  have hu := unI_ints [v, e, r]
  have l3 : ([v, e, r] : List Int).length = 3 := rfl
  have c7 : (custody : List UInt8).length = 7 := rfl
  have k0 : 0 < (custody ++ encIs [v, e, r] ++ d ++ c).length := by simp only [List.length_append]; omega
  have k1 : (custody ++ encIs [v, e, r] ++ d ++ c).length ≤ 2 ^ 38 := by simp only [List.length_append]; omega
  have h7 : 7 + (encIs [v, e, r]).length = (custody ++ encIs [v, e, r]).length := by rw [List.length_append, c7]
  have td : List.take 16 (bys d) = bys d := List.take_of_length_le (by rw [len_bytes]; omega)
  have tc : List.take 16 (bys c) = bys c := List.take_of_length_le (by rw [len_bytes]; omega)
  have h8 : (custody ++ encIs [v, e, r]).length ≤ 2 ^ 40 := by rw [← h7]; omega
  simp (config := { maxSteps := 1000000 }) only [tabD, gInts, gCat, unI, h7, h8, td, tc, hd, hc, custody_cons, unB_bytes, k0, k1, SV.flatL, SV.flat, Bool.and_true, Bool.and_self, Bool.true_and, beq_self_eq_true, Int.reduceGE, Int.reduceGT, ↓u_callAnd, Blk.mk.injEq, List.cons.injEq, SV.int.injEq, SV.bool.injEq, SV.tup.injEq, SV.agg.injEq, and_self, undef, Int.reduceBNe, Int.reduceBEq, Nat.reduceBNe, Nat.reduceBEq, ↓u_callX, lookF, setv, finO_r, finO_n, finO_x, again_n, again_x, again_r, lookT, eqPat, eqTag, reduceCtorEq, Nat.reduceEqDiff, Nat.reduceAdd, Nat.reduceSub, Nat.reduceMul, Nat.reduceDiv, Nat.reduceLeDiff, Nat.reduceLT, Int.reduceToNat, Int.reduceLT, Int.reduceLE, Int.reduceAdd, Int.reduceSub, Int.reduceMul, Int.reduceNeg, Int.reduceEq, Int.reduceNe, wrap64, false_imp_iff, true_imp_iff, eq_self, decide_true, decide_false, Int.cast_ofNat_Int,  true_and, and_true, false_and, and_false, imp_self, implies_true, List.getElem?_cons_zero, List.getElem?_cons_succ, List.length_cons, List.length_nil, List.append_nil, List.nil_append, List.cons_append, List.take_succ_cons, List.take_zero, List.drop_succ_cons, List.drop_zero, List.take_nil, List.drop_nil, List.reverse_cons, List.reverse_nil, List.map_cons, List.map_nil, Nat.zero_add, Nat.add_zero, frOf, den_nil, den_o0, ↓gd_tt, ↓gd_ff, ↓gd_tf, ↓gd_ft, gd_any, den_o1, kont_app, den_g, setv, Bool.not_true, Bool.not_false, den_skip, den_reg, den_regD, den_regP, den_A, den_regW, den_W, den_bad, evW, baseD, stBlk, touch, clear, untouched, updsW, List.all_cons, List.all_nil, List.contains_cons, List.contains_nil, Bool.not_true, Bool.not_false, Bool.or_false, Bool.or_self, Bool.false_or, Bool.true_or, Bool.or_true, den_seq, den_cond, den_block, den_exit, den_ret, den_b, den_xb, den_xo, den_xc, den_xu, den_rb, den_ro, den_rc, den_ru, den_u, den_loopU, finP_r, finP_n, finP_x, finE_r, finE_n, finE_x, ↓reduceIte, ↓e_box, ↓e_build, ↓e_bslice, ↓e_load, ↓e_store, ↓e_idxS, ↓e_idxV, ↓e_idxT, ↓e_fieldV, ↓e_eqv, ↓e_isNil, ↓e_b2s, ↓e_slcS, ↓e_arrAt, ↓e_ext, ↓e_app, ↓e_copy, ↓e_mv, ↓e_pick, ↓e_new, ↓e_nilc, ↓e_fld, ↓e_idxA, ↓e_bin, ↓e_eqb, ↓e_un, ↓e_conv, ↓e_strS, ↓e_s2b, ↓e_mkfn, ↓e_mksl, ↓e_slcA, ↓e_slcT, ↓e_call, ↓e_callp, ↓e_callv, ↓e_len, ↓e_lenA, ↓e_mx, ↓e_mn, ↓e_mkmap, ↓e_mput, ↓e_mlen, ↓e_mk8, ↓e_capN, ↓e_appZ, ↓u_onInt, ↓u_onBool, ↓u_onOpt0, ↓u_onOpt1, ↓u_binV, ↓u_srcOf, ↓u_srcSl, ↓binI, ↓binS, ↓fillE, ↓evRes, evA, Opd.ev, Sx.get, put, putO, del, dels, frD, memD, pickD, kills, views, newer, rd, rm, upd, splice, keysOf, kvOf, SV.cells?, SV.one, retOf, ↓u_callS, canLW, canV, canC, belowL, apH, apH1, eta, SV.ren, SV.renL, newOwn, targets, rms, Kind.isOwn, ren_bytes, byte_ren, ren_ints, flat_ints, len_ints, List.getElem?_nil, Option.getD_none, Option.getD_some, Nat.sub_zero, not_true_eq_false, not_false_eq_true, Nat.le_refl, take_bytes, take_ints, nlS_0, nlS_1, nlM_0, nlM_1, nlN_0, nlN_1, take_bys1, map_byte, len_bytes, flat_bytes, Int.toNat_natCast, Nat.mul_one, Int.cast_ofNat_Int]
  exact ⟨by decide, all_isU8 _, [], by simp [EntM, compat, apartM, keysBelow, frEnt, geto, eta, idHs, rd, SV.ren, SV.renL, Option.getD_some, Option.getD_none, List.getElem?_cons_zero, List.getElem?_cons_succ, List.getElem?_nil, List.length_cons, List.length_nil, Nat.zero_add, Nat.add_zero, Nat.reduceAdd, Nat.reduceSub, Nat.reduceEqDiff, Nat.reduceLT, Nat.reduceLeDiff, ↓reduceIte, Kind.isOwn, List.take_succ_cons, List.take_zero, List.nil_append, List.cons_append, List.append_nil, List.take_nil, and_self, and_true, true_and, exists_eq_left', Option.some.injEq, Blk.mk.injEq, Kind.own.injEq, List.drop_zero, List.take_length, Nat.le_refl, ne_eq, not_false_eq_true, implies_true, List.forall_mem_cons, List.not_mem_nil, false_imp_iff, Bool.or_false, Bool.false_or, Bool.or_self, Bool.true_or, Bool.or_true, forall_const, reduceCtorEq, List.mem_cons, or_false, forall_eq_or_imp, forall_eq, Nat.succ_ne_self, exists_eq_left, Option.some_inj, byte_ren, one_byte, ren_bytes, len_bytes, take_bytes, take_ints, nlS_0, nlS_1, nlM_0, nlM_1, nlN_0, nlN_1, take_bys1, ren_ints, len_ints], by rw [map_byteOf]; rfl⟩
def gStmt : GS
  | [.agg cd, .int .i64 e, .int .i64 r, .int .i64 v, .agg cc], [] => match unB cd, unB cc with
    | some d, some c => if d.length = 16 then if c.length = 16 then some (.str (stmt d e r v c), [], 0) else none else none
    | _, _ => none
  | _, _ => none
theorem gStmt_ok : FunS Tryd.prog tS 24 gStmt := by
  intro a0 m0 r m1 n1 h
  unfold gStmt at h
  split at h
  · split at h
    · rename_i d c hd hc
      split at h
      · split at h
        · cases h
          rw [unB_some hd, unB_some hc]
          exact ⟨f24 d _ _ _ c (by assumption) (by assumption), by simp [freshB]⟩
        · cases h
      · cases h
    · cases h
  · cases h

def tabE : List (FuncId × GS) := [(35, gIntsR), (37, gText)]
theorem tabE_ok : ∀ x ∈ tabE, FunS Tryd.prog tS x.1 x.2 := by
  intro x hx
  simp only [tabE, List.mem_cons, List.not_mem_nil, or_false] at hx
  rcases hx with rfl | rfl
  · exact gIntsR_ok
  · exact gText_ok
def stmtR (d : List UInt8) (e r v : Int) (c : List UInt8) : List UInt8 := custody ++ encIsR [v, e, r] ++ d ++ c
theorem encIsR3 (x y z : Int) : (encIsR [x, y, z]).length ≤ 40 := by
  have := encR_len x
  have := encR_len y
  have := encR_len z
  have := encR_len (([x, y, z] : List Int).length : Int)
  simp only [encIsR, encLR, List.length_append, List.length_nil]; omega
theorem f25 (d : List UInt8) (e r v : Int) (c : List UInt8) (hd : d.length = 16) (hc : c.length = 16) :
    Fun Tryd.prog tS 25 [.agg (bys d), .int .i64 e, .int .i64 r, .int .i64 v, .agg (bys c)] [] 0 (.str (stmtR d e r v c)) [] 0 := by
  refine fun_any none (callS tabE cF) (callS_ok tabE_ok cF_ok) chk25 (show 5 ≤ 24 by decide) (by decide) ?_
  unfold sf25
  have h3 : [SV.int .i64 v, SV.int .i64 e, SV.int .i64 r] = ints [v, e, r] := rfl
  have hl := encIsR3 v e r
  have c7 : (custody : List UInt8).length = 7 := rfl
  have td : List.take 16 (bys d) = bys d := List.take_of_length_le (by rw [len_bytes]; omega)
  have tc : List.take 16 (bys c) = bys c := List.take_of_length_le (by rw [len_bytes]; omega)
  have au := all_isU8 (encIsR [v, e, r])
  have mb := map_byteOf (encIsR [v, e, r])
  have cu : [99, 117, 115, 116, 111, 100, 121] = custody := rfl
  simp (config := { maxSteps := 1000000 }) only [tabE, gIntsR, gText, unI, td, tc, hd, hc, au, mb, unB_bytes, SV.flatL, SV.flat, Bool.and_true, Bool.and_self, Bool.true_and, beq_self_eq_true, Int.reduceGE, Int.reduceGT, ↓u_callAnd, Blk.mk.injEq, List.cons.injEq, SV.int.injEq, SV.bool.injEq, SV.tup.injEq, SV.agg.injEq, and_self, undef, Int.reduceBNe, Int.reduceBEq, Nat.reduceBNe, Nat.reduceBEq, ↓u_callX, lookF, setv, finO_r, finO_n, finO_x, again_n, again_x, again_r, lookT, eqPat, eqTag, reduceCtorEq, Nat.reduceEqDiff, Nat.reduceAdd, Nat.reduceSub, Nat.reduceMul, Nat.reduceDiv, Nat.reduceLeDiff, Nat.reduceLT, Int.reduceToNat, Int.reduceLT, Int.reduceLE, Int.reduceAdd, Int.reduceSub, Int.reduceMul, Int.reduceNeg, Int.reduceEq, Int.reduceNe, wrap64, false_imp_iff, true_imp_iff, eq_self, decide_true, decide_false, Int.cast_ofNat_Int,  true_and, and_true, false_and, and_false, imp_self, implies_true, List.getElem?_cons_zero, List.getElem?_cons_succ, List.length_cons, List.length_nil, List.append_nil, List.nil_append, List.cons_append, List.take_succ_cons, List.take_zero, List.drop_succ_cons, List.drop_zero, List.take_nil, List.drop_nil, List.reverse_cons, List.reverse_nil, List.map_cons, List.map_nil, Nat.zero_add, Nat.add_zero, frOf, den_nil, den_o0, ↓gd_tt, ↓gd_ff, ↓gd_tf, ↓gd_ft, gd_any, den_o1, kont_app, den_g, setv, Bool.not_true, Bool.not_false, den_skip, den_reg, den_regD, den_regP, den_A, den_regW, den_W, den_bad, evW, baseD, stBlk, touch, clear, untouched, updsW, List.all_cons, List.all_nil, List.contains_cons, List.contains_nil, Bool.not_true, Bool.not_false, Bool.or_false, Bool.or_self, Bool.false_or, Bool.true_or, Bool.or_true, den_seq, den_cond, den_block, den_exit, den_ret, den_b, den_xb, den_xo, den_xc, den_xu, den_rb, den_ro, den_rc, den_ru, den_u, den_loopU, finP_r, finP_n, finP_x, finE_r, finE_n, finE_x, ↓reduceIte, ↓e_box, ↓e_build, ↓e_bslice, ↓e_load, ↓e_store, ↓e_idxS, ↓e_idxV, ↓e_idxT, ↓e_fieldV, ↓e_eqv, ↓e_isNil, ↓e_b2s, ↓e_slcS, ↓e_arrAt, ↓e_ext, ↓e_app, ↓e_copy, ↓e_mv, ↓e_pick, ↓e_new, ↓e_nilc, ↓e_fld, ↓e_idxA, ↓e_bin, ↓e_eqb, ↓e_un, ↓e_conv, ↓e_strS, ↓e_s2b, ↓e_mkfn, ↓e_mksl, ↓e_slcA, ↓e_slcT, ↓e_call, ↓e_callp, ↓e_callv, ↓e_len, ↓e_lenA, ↓e_mx, ↓e_mn, ↓e_mkmap, ↓e_mput, ↓e_mlen, ↓e_mk8, ↓e_capN, ↓e_appZ, ↓u_onInt, ↓u_onBool, ↓u_onOpt0, ↓u_onOpt1, ↓u_binV, ↓u_srcOf, ↓u_srcSl, ↓binI, ↓binS, ↓fillE, ↓evRes, evA, Opd.ev, Sx.get, put, putO, del, dels, frD, memD, pickD, kills, views, newer, rd, rm, upd, splice, keysOf, kvOf, SV.cells?, SV.one, retOf, ↓u_callS, canLW, canV, canC, belowL, apH, apH1, eta, SV.ren, SV.renL, newOwn, targets, rms, Kind.isOwn, ren_bytes, byte_ren, ren_ints, flat_ints, len_ints, List.getElem?_nil, Option.getD_none, Option.getD_some, Nat.sub_zero, not_true_eq_false, not_false_eq_true, Nat.le_refl, take_bytes, take_ints, nlS_0, nlS_1, nlM_0, nlM_1, nlN_0, nlN_1, take_bys1, map_byte, len_bytes, flat_bytes, Int.toNat_natCast, Nat.mul_one, Int.cast_ofNat_Int]
  have hm : maxStr = 9223372036854775807 := rfl
  refine ⟨by omega, by omega, by rw [List.length_append]; omega, [], by simp [EntM, compat, apartM, keysBelow, frEnt, geto, eta, idHs, rd, SV.ren, SV.renL, Option.getD_some, Option.getD_none, List.getElem?_cons_zero, List.getElem?_cons_succ, List.getElem?_nil, List.length_cons, List.length_nil, Nat.zero_add, Nat.add_zero, Nat.reduceAdd, Nat.reduceSub, Nat.reduceEqDiff, Nat.reduceLT, Nat.reduceLeDiff, ↓reduceIte, Kind.isOwn, List.take_succ_cons, List.take_zero, List.nil_append, List.cons_append, List.append_nil, List.take_nil, and_self, and_true, true_and, exists_eq_left', Option.some.injEq, Blk.mk.injEq, Kind.own.injEq, List.drop_zero, List.take_length, Nat.le_refl, ne_eq, not_false_eq_true, implies_true, List.forall_mem_cons, List.not_mem_nil, false_imp_iff, Bool.or_false, Bool.false_or, Bool.or_self, Bool.true_or, Bool.or_true, forall_const, reduceCtorEq, List.mem_cons, or_false, forall_eq_or_imp, forall_eq, Nat.succ_ne_self, exists_eq_left, Option.some_inj, byte_ren, one_byte, ren_bytes, len_bytes, take_bytes, take_ints, nlS_0, nlS_1, nlM_0, nlM_1, nlN_0, nlN_1, take_bys1, ren_ints, len_ints], ?_⟩
  rfl
def gStmtR : GS
  | [.agg cd, .int .i64 e, .int .i64 r, .int .i64 v, .agg cc], [] => match unB cd, unB cc with
    | some d, some c => if d.length = 16 then if c.length = 16 then some (.str (stmtR d e r v c), [], 0) else none else none
    | _, _ => none
  | _, _ => none
theorem gStmtR_ok : FunS Tryd.prog tS 25 gStmtR := by
  intro a0 m0 r m1 n1 h
  unfold gStmtR at h
  split at h
  · split at h
    · rename_i d c hd hc
      split at h
      · split at h
        · cases h
          rw [unB_some hd, unB_some hc]
          exact ⟨f25 d _ _ _ c (by assumption) (by assumption), by simp [freshB]⟩
        · cases h
      · cases h
    · cases h
  · cases h
end Go.Proofs.YtkfbkooobfepeaaDoor

/- The plain law of the encodings of integers: the program's and the reference's are the same. -/
namespace Go.Proofs.YtkfbkooobfepeaaDoor
open Go Go.Sx Sf
set_option maxRecDepth 100000
set_option linter.unusedSimpArgs false
set_option linter.unusedVariables false

/-- the integers of the machine -/
def R64 (n : Int) : Prop := -9223372036854775808 ≤ n ∧ n ≤ 9223372036854775807
def byN (m j : Nat) : Nat := m / 256 ^ j % 256
def magN (n : Int) : Nat := if n < 0 then (-1 - n).toNat else n.toNat
theorem magN_lt {n : Int} (h : R64 n) : magN n < 9223372036854775808 := by
  unfold magN R64 at *
  split <;> omega
theorem magR_eq {n : Int} (h : R64 n) : magR n = (magN n : Int) := by
  unfold magR magN R64 at *
  split
  · rw [wrap64_eq (by omega) (by omega)]; omega
  · omega
theorem wrapU64 (x : Int) : IntKind.u64.wrap x = x % 18446744073709551616 := by
  simp [IntKind.wrap, IntKind.bits, IntKind.signed]
theorem wrapU8' (x : Int) : IntKind.u8.wrap x = x % 256 := by
  simp [IntKind.wrap, IntKind.bits, IntKind.signed]
theorem xor_max64 (x : Int) : bitop .xor .u64 (if IntKind.u64.signed then -1 else IntKind.u64.max) x = 18446744073709551615 - x % 18446744073709551616 := by
  have hm : (if IntKind.u64.signed then (-1 : Int) else IntKind.u64.max) = 18446744073709551615 := by decide
  rw [hm]
  unfold bitop
  simp only
  have e1 : BitVec.ofInt IntKind.u64.bits 18446744073709551615 = BitVec.allOnes 64 := show BitVec.ofInt 64 18446744073709551615 = BitVec.allOnes 64 by decide
  have e2 : (BitVec.allOnes 64 ^^^ BitVec.ofInt 64 x) = ~~~ (BitVec.ofInt 64 x) := by
    rw [BitVec.allOnes_xor]
  rw [e1]
  show IntKind.u64.wrap ((BitVec.allOnes 64 ^^^ BitVec.ofInt 64 x).toNat : Int) = _
  rw [e2, BitVec.toNat_not, wrapU64, BitVec.toNat_ofInt]
  omega
theorem encM_eq {n : Int} (h : R64 n) : encM n = (magN n : Int) := by
  unfold encM magN R64 at *
  split
  · rw [xor_max64, wrapU64]; omega
  · rw [wrapU64]; omega
theorem xor8_0 (x : Int) (h : 0 ≤ x ∧ x < 256) : bitop .xor .u8 x 0 = x := by
  unfold bitop
  simp only
  show IntKind.u8.wrap ((BitVec.ofInt 8 x ^^^ BitVec.ofInt 8 0).toNat : Int) = x
  have e : (BitVec.ofInt 8 x ^^^ BitVec.ofInt 8 0) = BitVec.ofInt 8 x := by
    have : BitVec.ofInt 8 0 = 0#8 := by decide
    rw [this, BitVec.xor_zero]
  rw [e, wrapU8', BitVec.toNat_ofInt]
  omega
theorem xor8_255 (x : Int) (h : 0 ≤ x ∧ x < 256) : bitop .xor .u8 x 255 = 255 - x := by
  unfold bitop
  simp only
  show IntKind.u8.wrap ((BitVec.ofInt 8 x ^^^ BitVec.ofInt 8 255).toNat : Int) = _
  have e : (BitVec.ofInt 8 x ^^^ BitVec.ofInt 8 255) = ~~~ BitVec.ofInt 8 x := by
    have : BitVec.ofInt 8 255 = BitVec.allOnes 8 := by decide
    rw [this, BitVec.xor_comm, BitVec.allOnes_xor]
  rw [e, wrapU8', BitVec.toNat_not, BitVec.toNat_ofInt]
  omega
theorem nth8_eq {m j : Nat} (hj : j < 8) : nth8 (m : Int) j = ((m / 256 ^ j : Nat) : Int) := by
  unfold nth8
  have h1 : min (8 * j) IntKind.u64.bits = 8 * j := Nat.min_eq_left (by show 8 * j ≤ 64; omega)
  rw [h1]
  have h2 : ((2 : Int) ^ (8 * j)) = ((256 ^ j : Nat) : Int) := by
    rw [Int.pow_mul]; simp
  rw [h2]
  exact (Int.ofNat_fdiv _ _).symm
theorem wrap_nth8 {m j : Nat} (hj : j < 8) : IntKind.u8.wrap (nth8 (m : Int) j) = (byN m j : Int) := by
  rw [nth8_eq hj, wrapU8']; unfold byN; omega
theorem byN_lt (m j : Nat) : byN m j < 256 := Nat.mod_lt _ (by decide)
theorem byN_succ (m j : Nat) : byN m (j + 1) = byN (m / 256) j := by
  unfold byN; rw [Nat.pow_succ, Nat.mul_comm, Nat.div_div_eq_div_mul]
theorem nxtR_eq {m : Nat} (h : m < 9223372036854775808) : nxtR (m : Int) = ((m / 256 : Nat) : Int) := by
  unfold nxtR
  rw [Int.tdiv_eq_ediv_of_nonneg (by omega), wrap64_eq (by omega) (by omega)]; omega
theorem dig_eq : ∀ (m : Nat), m < 9223372036854775808 → dig (m : Int) = (List.range (dig (m : Int)).length).map fun j => UInt8.ofNat (byN m j)
  | 0, _ => by rw [dig_neg (by omega)]; rfl
  | m + 1, h => by
    have hp : ((m + 1 : Nat) : Int) > 0 := by omega
    have ih := dig_eq ((m + 1) / 256) (by omega)
    rw [dig_pos hp, nxtR_eq h]
    simp only [List.length_cons, List.range_succ_eq_map, List.map_cons, List.map_map]
    congr 1
    · unfold wrapB byN
      rw [wrapU8', Int.tmod_eq_emod_of_nonneg (by omega)]
      congr 1
      simp only [Nat.pow_zero, Nat.div_one]
      omega
    · conv => lhs; rw [ih]
      apply List.map_congr_left
      intro j _
      simp only [Function.comp, byN_succ]
termination_by m => m
decreasing_by omega
theorem dig_len_le : ∀ (k m : Nat), m < 9223372036854775808 → m < 256 ^ k → (dig (m : Int)).length ≤ k := fun k m h h' => dig_len k _ (by exact_mod_cast h')
theorem dig_len_gt : ∀ (k m : Nat), m < 9223372036854775808 → 256 ^ k ≤ m → k < (dig (m : Int)).length
  | 0, m, h, h' => by
    rw [dig_pos (by simp at h'; omega)]; simp
  | k + 1, m, h, h' => by
    have hk : 0 < 256 ^ (k + 1) := Nat.pow_pos (by decide)
    rw [dig_pos (by omega), nxtR_eq h]
    have := dig_len_gt k (m / 256) (by omega) (by rw [Nat.le_div_iff_mul_le (by decide)]; rw [Nat.pow_succ] at h'; exact h')
    simp only [List.length_cons]; omega
theorem topK_eq {m : Nat} (h : m < 9223372036854775808) : ∀ k, k ≤ 8 → m < 256 ^ k → topK (m : Int) k = (dig (m : Int)).length
  | 0, _, h' => by
    have : m = 0 := by simpa using h'
    subst this
    rw [dig_neg (by omega)]; rfl
  | k + 1, hk, h' => by
    unfold topK
    rw [nth8_eq (by omega)]
    have hpos : 0 < 256 ^ k := Nat.pow_pos (by decide)
    by_cases hc : 256 ^ k ≤ m
    · have h1 : 0 < m / 256 ^ k := Nat.div_pos hc hpos
      rw [if_pos (by exact_mod_cast h1)]
      have := dig_len_le (k + 1) m h h'
      have := dig_len_gt k m h hc
      omega
    · have h1 : m / 256 ^ k = 0 := Nat.div_eq_of_lt (by omega)
      rw [h1, if_neg (by decide)]
      exact topK_eq h k (by omega) (by omega)
theorem encTail_eq (m f : Int) : ∀ i, encTail m f i = (List.range i).reverse.map fun j => flipB (IntKind.u8.wrap (nth8 m j)) f
  | 0 => rfl
  | i + 1 => by
    rw [List.range_succ, List.reverse_append]
    simp only [encTail, List.reverse_cons, List.reverse_nil, List.nil_append, List.cons_append, List.map_cons]
    rw [encTail_eq m f i]
/-- THE ENCODINGS ARE THE SAME -/
theorem enc_same {n : Int} (h : R64 n) : encI n = encR n := by
  have hm := magN_lt h
  have h8 : magN n < 256 ^ 8 := Nat.lt_trans hm (by decide)
  unfold encI encR hdR
  rw [encM_eq h, magR_eq h, topK_eq hm 8 (Nat.le_refl _) h8]
  have hl : (dig (magN n : Int)).length ≤ 8 := dig_len_le 8 _ hm h8
  generalize hK : (dig (magN n : Int)).length = K at *
  have hd := dig_eq _ hm
  rw [hK] at hd
  congr 1
  · unfold encHd encF flipB wrapB
    by_cases hn : n < 0
    · rw [if_pos hn, if_neg (by omega), xor8_255 _ (wrapU8_rng _), wrapU8', wrapU8', wrap64_eq (by omega) (by omega)]
      congr 1; omega
    · rw [if_neg hn, if_pos (by omega), xor8_0 _ (wrapU8_rng _), wrapU8', wrapU8', wrap64_eq (by omega) (by omega)]
  · rw [encTail_eq, hd, ← List.map_reverse, List.map_map]
    apply List.map_congr_left
    intro j hj
    have hj8 : j < 8 := by simp at hj; omega
    simp only [Function.comp]
    rw [wrap_nth8 hj8]
    have hb := byN_lt (magN n) j
    unfold encF turnR flipB wrapB
    by_cases hn : n < 0
    · rw [if_pos hn, if_pos hn, xor8_255 _ (by omega), wrapU8']
      congr 1
      simp only [UInt8.toNat_ofNat']
      omega
    · rw [if_neg hn, if_neg hn, xor8_0 _ (by omega)]
      congr 1
end Go.Proofs.YtkfbkooobfepeaaDoor

/- The plain law of the encodings of integers: nothing is the encoding of two, nor the beginning of another. -/
namespace Go.Proofs.YtkfbkooobfepeaaDoor
open Go Go.Sx Sf
set_option maxRecDepth 100000
set_option linter.unusedSimpArgs false
set_option linter.unusedVariables false

theorem hd_val {n : Int} {K : Nat} (hK : K ≤ 8) : encHd (encF n) K = UInt8.ofNat (if n < 0 then 127 - K else 128 + K) := by
  unfold encHd encF flipB
  by_cases hn : n < 0
  · rw [if_pos hn, if_pos hn, xor8_255 _ (wrapU8_rng _), wrapU8']
    congr 1; omega
  · rw [if_neg hn, if_neg hn, xor8_0 _ (wrapU8_rng _), wrapU8']
    congr 1; omega
/-- the digits tell the number -/
theorem byN_inj : ∀ (K m m' : Nat), m < 256 ^ K → m' < 256 ^ K → (∀ j, j < K → byN m j = byN m' j) → m = m'
  | 0, m, m', h, h', _ => by simp at h h'; omega
  | K + 1, m, m', h, h', hb => by
    have h0 := hb 0 (by omega)
    simp only [byN, Nat.pow_zero, Nat.div_one] at h0
    rw [Nat.pow_succ] at h h'
    have ih := byN_inj K (m / 256) (m' / 256) (by omega) (by omega) (fun j hj => by
      have := hb (j + 1) (by omega)
      rwa [byN_succ, byN_succ] at this)
    omega
/-- the form of an encoding -/
theorem encI_form {n : Int} (h : R64 n) : ∃ K, K ≤ 8 ∧ magN n < 256 ^ K ∧ encI n = UInt8.ofNat (if n < 0 then 127 - K else 128 + K) :: (List.range K).reverse.map fun j => UInt8.ofNat (if n < 0 then 255 - byN (magN n) j else byN (magN n) j) := by
  have hm := magN_lt h
  have h8 : magN n < 256 ^ 8 := Nat.lt_trans hm (by decide)
  refine ⟨(dig (magN n : Int)).length, dig_len_le 8 _ hm h8, ?_, ?_⟩
  · rcases Nat.lt_or_ge (magN n) (256 ^ (dig (magN n : Int)).length) with h1 | h1
    · exact h1
    · have := dig_len_gt _ _ hm h1; omega
  · unfold encI
    rw [encM_eq h, topK_eq hm 8 (Nat.le_refl _) h8]
    have hl : (dig (magN n : Int)).length ≤ 8 := dig_len_le 8 _ hm h8
    generalize (dig (magN n : Int)).length = K at *
    rw [hd_val hl, encTail_eq]
    congr 1
    apply List.map_congr_left
    intro j hj
    have hj8 : j < 8 := by simp at hj; omega
    rw [wrap_nth8 hj8]
    have hb := byN_lt (magN n) j
    unfold encF flipB
    by_cases hn : n < 0
    · rw [if_pos hn, if_pos hn, xor8_255 _ (by omega)]
      congr 1; omega
    · rw [if_neg hn, if_neg hn, xor8_0 _ (by omega)]
      congr 1
theorem u8_inj {a b : Nat} (ha : a < 256) (hb : b < 256) (h : UInt8.ofNat a = UInt8.ofNat b) : a = b := by
  have := congrArg UInt8.toNat h
  simp only [UInt8.toNat_ofNat'] at this
  omega
/-- NO ENCODING BEGINS ANOTHER -/
theorem enc_inj {x y : Int} (hx : R64 x) (hy : R64 y) {a b : List UInt8} (h : encI x ++ a = encI y ++ b) : x = y ∧ a = b := by
  obtain ⟨K, k1, k2, k3⟩ := encI_form hx
  obtain ⟨L, l1, l2, l3⟩ := encI_form hy
  rw [k3, l3, List.cons_append, List.cons_append, List.cons.injEq] at h
  obtain ⟨h1, h2⟩ := h
  have h1 := u8_inj (by split <;> omega) (by split <;> omega) h1
  have hs : (x < 0 ↔ y < 0) ∧ K = L := by
    by_cases hx0 : x < 0 <;> by_cases hy0 : y < 0 <;> simp only [hx0, hy0, if_true, if_false] at h1 ⊢ <;> first | omega | (exact ⟨trivial, by omega⟩) | skip
  obtain ⟨hs, rfl⟩ := hs
  obtain ⟨h3, h4⟩ := List.append_inj h2 (by simp)
  refine ⟨?_, h4⟩
  have hm : magN x = magN y := by
    refine byN_inj K _ _ k2 l2 fun j hj => ?_
    have h5 := List.map_inj_left.1 h3 j (by simpa using hj)
    have b1 := byN_lt (magN x) j
    have b2 := byN_lt (magN y) j
    have h6 := u8_inj (by split <;> omega) (by split <;> omega) h5
    by_cases hx0 : x < 0
    · have hy0 := hs.1 hx0
      simp only [hx0, hy0, if_true] at h6
      omega
    · have hy0 : ¬ y < 0 := fun h => hx0 (hs.2 h)
      simp only [hx0, hy0, if_false] at h6
      omega
  unfold magN R64 at *
  by_cases hx0 : x < 0
  · have hy0 := hs.1 hx0
    simp only [hx0, hy0, if_true] at hm
    omega
  · have hy0 : ¬ y < 0 := fun h => hx0 (hs.2 h)
    simp only [hx0, hy0, if_false] at hm
    omega
end Go.Proofs.YtkfbkooobfepeaaDoor
