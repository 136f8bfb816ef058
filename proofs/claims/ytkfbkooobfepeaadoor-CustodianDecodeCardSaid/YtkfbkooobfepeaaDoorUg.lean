/- The proof, part Ug: the texts WirC, WirE, PlaA, PlaB, DecA, PlaC, DecB, DecC, DecD, DecE, DecF, DecG. -/
import Derived.Test.YtkfbkooobfepeaaDoorUf
/- The reference's encoding of an integer. -/
namespace Go.Proofs.YtkfbkooobfepeaaDoor
open Go Go.Sx Sf
set_option maxRecDepth 100000
set_option linter.unusedVariables false
variable {tS : List (Nat × List SV)}
theorem wrap64_le {x : Int} (h : 0 ≤ x) : IntKind.i64.wrap x ≤ x ∧ IntKind.i64.wrap x ≤ 9223372036854775807 := by
  simp only [IntKind.wrap, IntKind.bits, IntKind.signed]
  simp
  omega
def nxtR (m : Int) : Int := IntKind.i64.wrap (m.tdiv 256)
theorem nxtR_lt {m : Int} (h : m > 0) : (nxtR m).toNat < m.toNat ∧ nxtR m ≤ 9223372036854775807 := by
  have h1 : 0 ≤ m.tdiv 256 := Int.tdiv_nonneg (by omega) (by omega)
  have h2 : m.tdiv 256 < m := by rw [Int.tdiv_eq_ediv_of_nonneg (by omega)]; omega
  have := wrap64_le h1
  unfold nxtR
  omega
def digs : Nat → Int → List UInt8
  | 0, _ => []
  | f + 1, m => if m > 0 then wrapB (m.tmod 256) :: digs f (nxtR m) else []
theorem digs_fuel : ∀ (f : Nat) (m : Int), m.toNat ≤ f → digs f m = digs m.toNat m
  | 0, m, h => by
    have : m.toNat = 0 := by omega
    rw [this]
  | f + 1, m, h => by
    by_cases hm : m > 0
    · have h1 := nxtR_lt hm
      obtain ⟨j, hj⟩ : ∃ j, m.toNat = j + 1 := ⟨m.toNat - 1, by omega⟩
      rw [hj]
      simp only [digs, hm, if_true]
      rw [digs_fuel f (nxtR m) (by omega), digs_fuel j (nxtR m) (by omega)]
    · have : m.toNat = 0 := by omega
      rw [this]
      simp only [digs, hm, if_false]
termination_by f => f
def dig (m : Int) : List UInt8 := digs m.toNat m
theorem dig_pos {m : Int} (h : m > 0) : dig m = wrapB (m.tmod 256) :: dig (nxtR m) := by
  unfold dig
  obtain ⟨j, hj⟩ : ∃ j, m.toNat = j + 1 := ⟨m.toNat - 1, by omega⟩
  rw [hj]
  simp only [digs, h, if_true]
  rw [digs_fuel j _ (by have := nxtR_lt h; omega)]
theorem dig_neg {m : Int} (h : ¬ m > 0) : dig m = [] := by
  unfold dig
  have : m.toNat = 0 := by omega
  rw [this]; rfl
theorem dig_len : ∀ (j : Nat) (m : Int), m < 256 ^ j → (dig m).length ≤ j
  | 0, m, h => by rw [dig_neg (by simp at h; omega)]; simp
  | j + 1, m, h => by
    by_cases hm : m > 0
    · rw [dig_pos hm]
      have h1 : 0 ≤ m.tdiv 256 := Int.tdiv_nonneg (by omega) (by omega)
      have h2 : m.tdiv 256 < 256 ^ j := by
        rw [Int.tdiv_eq_ediv_of_nonneg (by omega)]
        rw [Int.pow_succ] at h
        omega
      have := (wrap64_le h1).1
      have := dig_len j (nxtR m) (by unfold nxtR; omega)
      simp only [List.length_cons]; omega
    · rw [dig_neg hm]; simp
theorem dig_len9 (m : Int) : (dig m).length ≤ 9 := by
  by_cases hm : m > 0
  · rw [dig_pos hm]
    have := dig_len 8 (nxtR m) (by have := nxtR_lt hm; have : (256 : Int) ^ 8 = 18446744073709551616 := by decide
                                   omega)
    simp only [List.length_cons]; omega
  · rw [dig_neg hm]; simp

def magR (n : Int) : Int := if n < 0 then IntKind.i64.wrap (-1 - n) else n
def hdR (n : Int) : UInt8 := if n ≥ 0 then wrapB (IntKind.i64.wrap (128 + ((dig (magR n)).length : Int))) else wrapB (IntKind.i64.wrap (127 - ((dig (magR n)).length : Int)))
def turnR (n : Int) (d : UInt8) : UInt8 := if n < 0 then wrapB (255 - (d.toNat : Int)) else d
def encR (n : Int) : List UInt8 := hdR n :: (dig (magR n)).reverse.map (turnR n)
theorem encR_len (n : Int) : (encR n).length ≤ 10 := by
  have := dig_len9 (magR n)
  simp [encR]; omega

set_option maxHeartbeats 4000000 in
theorem f38 (n : Int) : Fun Tryd.prog tS 38 [.int .i64 n] [] 0 (.slc 0 0 1 (encR n).length none) [(0, ⟨.own 5, bys (encR n)⟩)] 1 := by
  refine fun_any none cF cF_ok chk38 (show 1 ≤ 59 by decide) (Nat.zero_le _) ?_
  unfold sf38
  have hlen := encR_len n
  have hd9 := dig_len9 (magR n)
  have key : (IntKind.i64.wrap (-1 - n) = magR n ∧ n < 0) ∨ (magR n = n ∧ ¬ n < 0) := by
    unfold magR
    by_cases hn : n < 0
    · left; rw [if_pos hn]; exact ⟨rfl, hn⟩
    · right; rw [if_neg hn]; exact ⟨rfl, hn⟩
  rcases key with ⟨k1, hn⟩ | ⟨k1, hn⟩
  all_goals
    simp (config := { maxSteps := 1000000 }) only [hn, reduceCtorEq, Nat.reduceEqDiff, Int.reduceNeg, eq_self, decide_true, decide_false,  true_and, frOf, den_o0, ↓gd_tt, ↓gd_ft, den_o1, kont_app, den_skip, den_reg, den_seq, den_cond, den_block, ↓reduceIte, ↓e_mv, ↓e_bin, ↓u_binV, ↓binI, Opd.ev, Sx.get, put, putO, del, dels]
    rw [den_loop]
    refine den_inv cF_ok (σ := Int × List UInt8) (fun s => [(4, nlS 0 1 s.2.length), (3, .int .i64 s.1), (0, .int .i64 n)]) (fun s => nlM 0 5 (bys s.2) [] s.2.length) (fun s => nlN 0 s.2.length)
      (fun s => s.2 ++ dig s.1 = dig (magR n)) (fun s => s.1.toNat) (magR n, []) ⟨[], by simp [EntM, compat, apartM, keysBelow, idHs, List.length_nil, List.take_nil, and_self, nlM_0, nlN_0], by simp [k1, frEnt, geto, SV.ren, List.length_nil, Nat.reduceEqDiff, ↓reduceIte, and_self, reduceCtorEq, Nat.succ_ne_self, nlS_0]⟩ rfl ?_
    rintro ⟨m, pre⟩ hpre
    simp only at hpre
    have hl := congrArg List.length hpre
    simp only [List.length_append] at hl
    by_cases hm : m > 0
    · rw [dig_pos hm, ← List.singleton_append, ← List.append_assoc] at hpre
      have hb := wrapB_sv (m.tmod 256)
      have hdec := (nxtR_lt hm).1
      cases pre with
      | nil =>
        simp (config := { maxSteps := 1000000 }) only [hm, again_n, reduceCtorEq, Nat.reduceEqDiff, Nat.reduceAdd, Int.reduceNe, eq_self, decide_true,  true_and, List.length_cons, List.length_nil, List.append_nil, List.nil_append, List.take_succ_cons, List.take_zero, List.drop_succ_cons, List.drop_zero, List.take_nil, List.drop_nil, Nat.zero_add, den_nil, den_o0, ↓gd_tt, den_o1, kont_app, den_skip, den_reg, den_seq, den_cond, den_block, den_b, ↓reduceIte, ↓e_bslice, ↓e_app, ↓e_mv, ↓e_bin, ↓e_conv, ↓u_binV, ↓u_srcOf, ↓u_srcSl, ↓binI, ↓fillE, Opd.ev, Sx.get, put, putO, del, dels, rd, splice, SV.cells?, SV.one, Nat.le_refl, nlS_0, nlM_0, nlN_0, Nat.mul_one]
        exact ⟨by omega, by omega, (nxtR m, _), ⟨[(1, 0)], by simp [hb, EntM, compat, apartM, keysBelow, eta, idHs, rd, Option.getD_some, List.length_cons, List.length_nil, Nat.zero_add, Nat.add_zero, ↓reduceIte, Kind.isOwn, List.take_zero, List.nil_append, and_self, true_and, exists_eq_left', Option.some.injEq, ne_eq, implies_true, List.not_mem_nil, Bool.true_or, forall_const, one_byte, ren_bytes, nlM_1, nlN_1], by simp [nxtR, frEnt, geto, eta, SV.ren, Option.getD_some, List.length_cons, List.length_nil, Nat.zero_add, Nat.add_zero, Nat.reduceEqDiff, ↓reduceIte, List.nil_append, and_self, reduceCtorEq, nlS_1]⟩, hpre, by simp only; omega⟩
      | cons c pre =>
        have h9 : pre.length ≤ 9 := by simp at hl; omega
        simp (config := { maxSteps := 1000000 }) only [hm, again_n, reduceCtorEq, Nat.reduceEqDiff, Nat.reduceAdd, Int.reduceNe, eq_self, decide_true,  true_and, List.length_cons, List.length_nil, List.append_nil, List.nil_append, List.take_succ_cons, List.take_zero, List.drop_succ_cons, List.drop_zero, List.take_nil, List.drop_nil, Nat.zero_add, den_nil, den_o0, ↓gd_tt, den_o1, kont_app, den_skip, den_reg, den_seq, den_cond, den_block, den_b, ↓reduceIte, ↓e_bslice, ↓e_app, ↓e_mv, ↓e_bin, ↓e_conv, ↓u_binV, ↓u_srcOf, ↓u_srcSl, ↓binI, ↓fillE, Opd.ev, Sx.get, put, putO, del, dels, rd, rm, splice, SV.cells?, SV.one, Nat.le_refl, nlS_1, nlM_1, nlN_1, take_bys1, len_bytes, Nat.mul_one]
        rw [hb, bytes_app1]
        exact ⟨by omega, by omega, (nxtR m, _), ⟨[(2, 0)], by simp [EntM, compat, apartM, keysBelow, eta, idHs, rd, Option.getD_some, List.length_cons, List.length_nil, Nat.zero_add, Nat.add_zero, ↓reduceIte, Kind.isOwn, List.take_zero, List.cons_append, and_self, true_and, exists_eq_left', Option.some.injEq, ne_eq, implies_true, List.not_mem_nil, Bool.true_or, forall_const, one_byte, ren_bytes, nlM_1, nlN_1], by simp [nxtR, frEnt, geto, eta, SV.ren, Option.getD_some, List.length_cons, List.length_nil, Nat.zero_add, Nat.add_zero, Nat.reduceEqDiff, ↓reduceIte, List.cons_append, and_self, reduceCtorEq, nlS_1]⟩, hpre, by simp only; omega⟩
    · rw [dig_neg hm, List.append_nil] at hpre
      subst hpre
      have key2 : encR n = hdR n :: (dig (magR n)).reverse.map (turnR n) := rfl
      generalize hds : dig (magR n) = ds at *
      have hh : hdR n = if n ≥ 0 then wrapB (IntKind.i64.wrap (128 + (ds.length : Int))) else wrapB (IntKind.i64.wrap (127 - (ds.length : Int))) := by unfold hdR; rw [hds]
      have hb1 := wrapB_sv (IntKind.i64.wrap (128 + (ds.length : Int)))
      have hb2 := wrapB_sv (IntKind.i64.wrap (127 - (ds.length : Int)))
      have w0 : IntKind.i64.wrap ((ds.length : Int) - 1) = (ds.length : Int) - 1 := wrap64_eq (by omega) (by omega)
      have hn2 : (n ≥ 0) = ¬ (n < 0) := by simp
      have hhd : SV.int .u8 (IntKind.u8.wrap (IntKind.i64.wrap (if n ≥ 0 then 128 + (ds.length : Int) else 127 - (ds.length : Int)))) = SV.byte (hdR n) := by
        rw [hh]
        by_cases hc : n ≥ 0
        · rw [if_pos hc, if_pos hc]; exact hb1
        · rw [if_neg hc, if_neg hc]; exact hb2
      simp only [hn2, hn, not_true_eq_false, not_false_eq_true, if_true, if_false] at hhd
      cases ds with
      | nil =>
        simp (config := { maxSteps := 1000000 }) only [hm, hn, hn2, again_x, reduceCtorEq, Nat.reduceEqDiff, Nat.reduceAdd, Int.reduceLE, Int.reduceAdd, Int.reduceSub, Int.reduceNeg, wrap64, eq_self, decide_true, decide_false,  true_and, List.length_cons, List.length_nil, List.append_nil, List.nil_append, List.take_succ_cons, List.take_zero, List.drop_succ_cons, List.drop_zero, List.take_nil, List.drop_nil, Nat.zero_add, den_nil, den_o0, ↓gd_tt, ↓gd_ft, den_o1, kont_app, den_reg, den_seq, den_cond, den_block, den_exit, den_xb, den_xc, ↓reduceIte, ↓e_bslice, ↓e_app, ↓e_mv, ↓e_bin, ↓e_conv, ↓e_len, ↓u_binV, ↓u_srcOf, ↓u_srcSl, ↓binI, ↓fillE, Opd.ev, Sx.get, put, putO, del, dels, rd, splice, SV.cells?, SV.one, not_true_eq_false, not_false_eq_true, Nat.le_refl, nlS_0, nlM_0, nlN_0, Nat.mul_one]
        simp only [List.length_nil, Int.natCast_zero, Int.add_zero, Int.sub_zero, wrap64_eq, Int.reduceNeg, Int.reduceLE] at hhd
        rw [den_loop]
        refine ⟨by omega, by omega, den_unroll cF_ok (callT_point _ _) 2 ?_⟩
        simp (config := { maxSteps := 1000000 }) only [Int.reduceGE, reduceCtorEq, Nat.reduceEqDiff, Int.reduceNeg, eq_self, decide_false,  true_and, Nat.add_zero, den_nil, den_o0, ↓gd_ft, den_o1, kont_app, den_reg, den_seq, den_cond, den_exit, den_ret, den_xb, den_xc, den_xu, den_u, finE_r, ↓reduceIte, ↓e_mv, ↓e_bin, ↓u_binV, ↓binI, ↓evRes, Opd.ev, Sx.get, put, putO, del, dels, retOf, eta, SV.ren]
        exact ⟨[(1, 0)], by simp [hhd, key2, EntM, compat, apartM, keysBelow, eta, idHs, rd, Option.getD_some, List.length_cons, List.length_nil, Nat.zero_add, Nat.add_zero, ↓reduceIte, Kind.isOwn, List.take_zero, and_self, true_and, exists_eq_left', Option.some.injEq, ne_eq, implies_true, List.not_mem_nil, Bool.true_or, forall_const, one_byte, ren_bytes], by simp [key2, Option.getD_some, List.length_cons, List.length_nil, Nat.zero_add, Nat.add_zero]⟩
      | cons d ds =>
        simp only [List.length_cons] at hhd w0 hd9
        simp (config := { maxSteps := 1000000 }) only [hm, hn, hn2, w0, again_x, reduceCtorEq, Nat.reduceEqDiff, Nat.reduceAdd, eq_self, decide_true, decide_false,  true_and, List.length_cons, List.length_nil, List.append_nil, List.nil_append, List.take_succ_cons, List.take_zero, List.drop_succ_cons, List.drop_zero, List.take_nil, List.drop_nil, Nat.zero_add, den_nil, den_o0, ↓gd_tt, ↓gd_ft, den_o1, kont_app, den_reg, den_seq, den_cond, den_block, den_exit, den_xb, den_xc, ↓reduceIte, ↓e_bslice, ↓e_app, ↓e_mv, ↓e_bin, ↓e_conv, ↓e_len, ↓u_binV, ↓u_srcOf, ↓u_srcSl, ↓binI, ↓fillE, Opd.ev, Sx.get, put, putO, del, dels, rd, splice, SV.cells?, SV.one, not_true_eq_false, not_false_eq_true, Nat.le_refl, nlS_1, nlM_1, nlN_1, Nat.mul_one]
        refine ⟨by omega, by omega, ?_⟩
        rw [den_loop]
        refine den_inv cF_ok (σ := Nat × List UInt8) (fun s => [(7, .int .i64 ((s.1 : Int) - 1)), (6, .slc 1 0 1 s.2.length none), (4, .slc 0 0 1 (ds.length + 1) none), (0, .int .i64 n)])
          (fun s => [(1, ⟨.own 5, bys s.2⟩), (0, ⟨.own 5, bys (d :: ds)⟩)]) (fun _ => 2) (fun s => s.1 ≤ ds.length + 1 ∧ s.2 ++ ((d :: ds).take s.1).reverse.map (turnR n) = encR n) (fun s => s.1) (ds.length + 1, [hdR n]) ?_ ⟨Nat.le_refl _, ?_⟩ ?_
        · exact ⟨[(0, 0), (2, 0)], by simp only [hhd, EntM, compat, apartM, keysBelow, eta, idHs, rd, Option.getD_some, List.getElem?_cons_zero, List.getElem?_cons_succ, List.length_cons, List.length_nil, Nat.zero_add, Nat.add_zero, Nat.reduceAdd, Nat.reduceSub, Nat.reduceLT, Nat.reduceLeDiff, ↓reduceIte, Kind.isOwn, List.take_zero, and_self, true_and, exists_eq_left', Option.some.injEq, ne_eq, not_false_eq_true, implies_true, List.not_mem_nil, false_imp_iff, Bool.true_or, forall_const, reduceCtorEq, List.mem_cons, or_false, forall_eq, Nat.succ_ne_self, one_byte, ren_bytes], by simp only [frEnt, geto, eta, SV.ren, Option.getD_some, List.getElem?_cons_zero, List.getElem?_cons_succ, List.length_cons, List.length_nil, Nat.zero_add, Nat.add_zero, Nat.reduceAdd, Nat.reduceSub, Nat.reduceEqDiff, ↓reduceIte, and_self, reduceCtorEq, Nat.succ_ne_self]⟩
        · rw [key2, List.take_of_length_le (by simp)]; rfl
        · rintro ⟨i, pre⟩ ⟨hi, hpre⟩
          simp only at hi hpre
          by_cases hi0 : i = 0
          · subst hi0
            simp only [List.take_zero, List.reverse_nil, List.map_nil, List.append_nil] at hpre
            subst hpre
            simp (config := { maxSteps := 1000000 }) only [Int.reduceGE, again_x, reduceCtorEq, Nat.reduceEqDiff, Int.reduceSub, Int.reduceNeg, eq_self, decide_false, Int.cast_ofNat_Int,  true_and, Nat.add_zero, den_nil, den_o0, ↓gd_ft, den_o1, kont_app, den_reg, den_seq, den_cond, den_exit, den_ret, den_xb, den_xc, finE_r, ↓reduceIte, ↓e_mv, ↓e_bin, ↓u_binV, ↓binI, ↓evRes, Opd.ev, Sx.get, put, putO, del, dels, retOf, eta, SV.ren, Int.cast_ofNat_Int]
            exact ⟨[(1, 0)], by simp [EntM, compat, apartM, keysBelow, eta, idHs, rd, Option.getD_some, List.length_cons, List.length_nil, Nat.zero_add, Nat.add_zero, ↓reduceIte, Kind.isOwn, List.take_zero, and_self, true_and, exists_eq_left', Option.some.injEq, ne_eq, implies_true, List.not_mem_nil, Bool.true_or, forall_const, ren_bytes], by simp [Option.getD_some, List.length_cons, List.length_nil, Nat.zero_add, Nat.add_zero]⟩
          · have q0 : (i : Int) - 1 ≥ 0 := by omega
            have v2 : IntKind.i64.wrap ((i : Int) - 1 - 1) = (i : Int) - 1 - 1 := wrap64_eq (by omega) (by omega)
            have q1 : ((i : Int) - 1 < ((ds.length + 1 : Nat) : Int)) := by omega
            have q2 : ((i : Int) - 1).toNat = i - 1 := by omega
            obtain ⟨x, hx⟩ : ∃ x, (d :: ds)[i - 1]? = some x := ⟨_, List.getElem?_eq_getElem (by simp; omega)⟩
            have gx := get_bysI hx
            have hc : turnR n x = (if n < 0 then wrapB (255 - (x.toNat : Int)) else x) := rfl
            have q3 : i - 1 < ds.length + 1 := by omega
            have hb3 := wrapB_sv (255 - (x.toNat : Int))
            simp (config := { maxSteps := 1000000 }) only [hn, q0, q1, q2, q3, v2, gx, again_n, reduceCtorEq, Nat.reduceEqDiff, Nat.reduceAdd, eq_self, decide_true, decide_false,  true_and, List.length_cons, List.length_nil, List.append_nil, List.nil_append, List.take_succ_cons, List.take_zero, List.drop_succ_cons, List.drop_zero, List.take_nil, List.drop_nil, Nat.zero_add, den_nil, den_o0, ↓gd_tt, ↓gd_ft, den_o1, kont_app, den_skip, den_reg, den_seq, den_cond, den_block, den_b, ↓reduceIte, ↓e_bslice, ↓e_load, ↓e_idxS, ↓e_app, ↓e_mv, ↓e_bin, ↓u_binV, ↓u_srcOf, ↓u_srcSl, ↓binI, ↓fillE, Opd.ev, Sx.get, put, putO, del, dels, rd, rm, splice, SV.cells?, SV.one, Nat.le_refl, take_bytes, len_bytes, Nat.mul_one]
            rw [take_succ_rev hi0 hx, List.map_cons, ← List.singleton_append, ← List.append_assoc, hc] at hpre
            simp only [hn, if_true, if_false] at hpre
            have h10 : pre.length ≤ 10 := by have := congrArg List.length hpre; simp at this; omega
            have hci : ((i - 1 : Nat) : Int) = (i : Int) - 1 := by omega
            first
              | rw [hb3, bytes_app1]
              | rw [byte_I, bytes_app1]
            exact ⟨by omega, by omega, (i - 1, _), ⟨[(0, 0), (3, 0)], by simp [EntM, compat, apartM, keysBelow, eta, idHs, rd, Option.getD_some, List.length_cons, List.length_nil, Nat.zero_add, Nat.add_zero, Nat.reduceAdd, Nat.reduceLeDiff, ↓reduceIte, Kind.isOwn, List.take_zero, and_self, true_and, exists_eq_left', Option.some.injEq, ne_eq, not_false_eq_true, implies_true, List.not_mem_nil, Bool.true_or, forall_const, reduceCtorEq, List.mem_cons, or_false, forall_eq, ren_bytes], by simp [hci, frEnt, geto, eta, SV.ren, Option.getD_some, List.length_cons, List.length_nil, Nat.zero_add, Nat.add_zero, Nat.reduceAdd, Nat.reduceEqDiff, Nat.reduceLeDiff, ↓reduceIte, and_self, reduceCtorEq, Nat.succ_ne_self]⟩, ⟨by simp only; omega, hpre⟩, by simp only; omega⟩
def gIntR : GS
  | [.int .i64 n], [] => some (.slc 0 0 1 (encR n).length none, [(0, ⟨.own 5, bys (encR n)⟩)], 1)
  | _, _ => none
theorem gIntR_ok : FunS Tryd.prog tS 38 gIntR := by
  intro a0 m0 r m1 n1 h
  unfold gIntR at h
  split at h
  · cases h; exact ⟨f38 _, by simp [freshB]⟩
  · cases h
end Go.Proofs.YtkfbkooobfepeaaDoor

/- The joining of slices. -/
namespace Go.Proofs.YtkfbkooobfepeaaDoor
open Go Go.Sx Sf
set_option maxRecDepth 100000
set_option linter.unusedVariables false
variable {tS : List (Nat × List SV)}
theorem f51 (k : Nat) (h0 : 0 < k) (h1 : k ≤ 2 ^ 38) : Fun Tryd.prog tS 51 [.val (.slice none 0 0), .int .i64 (k : Int)] [] 0 (.slc 0 0 1 0 none) [(0, ⟨.own 5, bys (List.replicate k 0)⟩)] 1 := by
  refine fun_any none cF cF_ok chk51 (show 2 ≤ 27 by decide) (by decide) ?_
  unfold sf51
  have c1 : ¬ (k : Int) < 0 := by omega
  have c2 : (k : Int) > 0 := by omega
  have w1 : IntKind.i64.wrap (k : Int) = (k : Int) := wrap64_eq (by omega) (by omega)
  have c3 : (0 : Int) < (k : Int) := by omega
  simp (config := { maxSteps := 1000000 }) only [c1, c2, w1, Int.sub_zero, reduceCtorEq, Nat.reduceEqDiff, Int.reduceToNat, Int.reduceLE, Int.reduceNeg, wrap64, eq_self, decide_true, decide_false, Int.cast_ofNat_Int,  true_and, Nat.zero_add, Nat.add_zero, frOf, den_nil, den_o0, ↓gd_tt, ↓gd_ft, den_o1, kont_app, den_skip, den_reg, den_seq, den_cond, den_ret, finE_r, ↓reduceIte, ↓e_slcS, ↓e_mv, ↓e_bin, ↓e_len, ↓e_capN, ↓e_appZ, ↓u_onInt, ↓u_onOpt0, ↓u_onOpt1, ↓u_binV, ↓binI, ↓evRes, Opd.ev, Sx.get, put, putO, del, dels, rd, retOf, eta, SV.ren, Nat.sub_zero, Int.toNat_natCast, Nat.mul_one, Int.cast_ofNat_Int]
  have e : bys (List.replicate k 0) = rep k [.int .u8 0] := by
    rw [rep_one]; simp only [bys, List.map_replicate]; rfl
  rw [e]
  refine ⟨by omega, by omega, by simp [rep_one], by omega, [(0, 0)], ?_, ?_⟩
  · rw [← e]; simp [EntM, compat, apartM, keysBelow, eta, idHs, rd, Option.getD_some, List.length_cons, List.length_nil, Nat.zero_add, Nat.add_zero, ↓reduceIte, Kind.isOwn, List.take_zero, and_self, true_and, exists_eq_left', Option.some.injEq, ne_eq, implies_true, List.not_mem_nil, Bool.true_or, forall_const, ren_bytes]
  · rfl
def gGrow : GS
  | [.val (.slice none 0 0), .int .i64 (.ofNat k)], [] => if 0 < k then if k ≤ 2 ^ 38 then some (.slc 0 0 1 0 none, [(0, ⟨.own 5, bys (List.replicate k 0)⟩)], 1) else none else none
  | _, _ => none
theorem gGrow_eq {k : Nat} : gGrow [.val (.slice none 0 0), .int .i64 (k : Int)] [] = if 0 < k then if k ≤ 2 ^ 38 then some (.slc 0 0 1 0 none, [(0, ⟨.own 5, bys (List.replicate k 0)⟩)], 1) else none else none := (rfl)
theorem gGrow_ok : FunS Tryd.prog tS 51 gGrow := by
  intro a0 m0 r m1 n1 h
  unfold gGrow at h
  split at h
  · split at h
    · split at h
      · cases h; exact ⟨f51 _ (by assumption) (by assumption), by simp [freshB]⟩
      · cases h
    · cases h
  · cases h
theorem tk_app {n : Nat} {a b : List UInt8} (h : n = a.length + b.length) : List.take n (bys a ++ bys b) = bys (a ++ b) := by
  rw [bytes_app]; exact List.take_of_length_le (by rw [len_bytes]; simp; omega)
def tabC : List (FuncId × GS) := [(51, gGrow)]
theorem tabC_ok : ∀ x ∈ tabC, FunS Tryd.prog tS x.1 x.2 := by
  intro x hx
  simp only [tabC, List.mem_cons, List.not_mem_nil, or_false] at hx
  rcases hx with rfl
  exact gGrow_ok
set_option maxHeartbeats 4000000 in
theorem f32_3 (p1 p2 p3 : List UInt8) (c : Option Nat) (c1 c2 c3 : Option Nat) (h0 : 0 < (p1 ++ p2 ++ p3).length) (hT : (p1 ++ p2 ++ p3).length ≤ 2 ^ 38) :
    Fun Tryd.prog tS 32 [.slc 0 0 1 3 c] [(0, ⟨.view, [.slc 1 0 1 p1.length c1, .slc 2 0 1 p2.length c2, .slc 3 0 1 p3.length c3]⟩), (1, ⟨.view, bys p1⟩), (2, ⟨.view, bys p2⟩), (3, ⟨.view, bys p3⟩)] 4 (.slc 4 0 1 (p1 ++ p2 ++ p3).length none) [(4, ⟨.own 5, bys (p1 ++ p2 ++ p3)⟩)] 5 := by
  refine fun_any none (callS tabC cF) (callS_ok tabC_ok cF_ok) chk32 (show 1 ≤ 36 by decide) (by decide) ?_
  unfold sf32
  have hT2 : (p1 ++ p2 ++ p3).length = p1.length + p2.length + p3.length := by simp [Nat.add_assoc]
  generalize hn : (p1 ++ p2 ++ p3).length = T at *
  have w1 : IntKind.i64.wrap ((p1.length : Nat) : Int) = ((p1.length : Nat) : Int) := wrap64_eq (by omega) (by omega)
  have v1 : ¬ ((p1.length : Nat) : Int) < 0 := by omega
  have w2 : IntKind.i64.wrap (((p1.length : Nat) : Int) + ((p2.length : Nat) : Int)) = ((p1.length + p2.length : Nat) : Int) := by rw [wrap64_eq (by omega) (by omega)]; omega
  have v2 : ¬ ((p1.length + p2.length : Nat) : Int) < 0 := by omega
  have w3 : IntKind.i64.wrap (((p1.length + p2.length : Nat) : Int) + ((p3.length : Nat) : Int)) = ((p1.length + p2.length + p3.length : Nat) : Int) := by rw [wrap64_eq (by omega) (by omega)]; omega
  have v3 : ¬ ((p1.length + p2.length + p3.length : Nat) : Int) < 0 := by omega
  have u0 : 0 < p1.length + p2.length + p3.length := by omega
  have u1 : p1.length + p2.length + p3.length ≤ 2 ^ 38 := by omega
  simp (config := { maxSteps := 1000000 }) only [tabC, reduceCtorEq, Nat.reduceEqDiff, eq_self, Int.cast_ofNat_Int, frOf, den_o0, den_o1, kont_app, den_reg, den_seq, den_block, ↓reduceIte, ↓e_mv, ↓e_len, Opd.ev, Sx.get, put, putO, del, dels, Int.cast_ofNat_Int]
  rw [den_loop]
  refine den_unroll (callS_ok tabC_ok cF_ok) (callT_point _ _) 4 ?_
  simp (config := { maxSteps := 1000000 }) only [↓gGrow_eq, Int.zero_add, u0, u1, w1, v1, w2, v2, w3, v3, lookF, reduceCtorEq, Nat.reduceEqDiff, Nat.reduceAdd, Nat.reduceLT, Int.reduceToNat, Int.reduceLT, Int.reduceLE, Int.reduceAdd, Int.reduceNeg, wrap64, eq_self, decide_true, decide_false, Int.cast_ofNat_Int,  true_and, List.getElem?_cons_zero, List.getElem?_cons_succ, List.length_cons, List.length_nil, List.append_nil, List.nil_append, List.cons_append, List.map_cons, List.map_nil, Nat.zero_add, Nat.add_zero, den_o0, ↓gd_tt, ↓gd_ft, den_o1, kont_app, den_skip, den_reg, den_seq, den_cond, den_block, den_exit, den_b, den_xb, den_xc, den_xu, den_u, ↓reduceIte, ↓e_load, ↓e_idxS, ↓e_mv, ↓e_bin, ↓e_call, ↓e_len, ↓u_binV, ↓binI, Opd.ev, Sx.get, put, putO, del, dels, rd, ↓u_callS, canLW, canV, belowL, apH, eta, SV.ren, newOwn, targets, rms, Kind.isOwn, ren_bytes, List.getElem?_nil, Option.getD_none, Nat.sub_zero, Nat.mul_one, Int.cast_ofNat_Int]
  rw [den_loop]
  refine den_unroll (callS_ok tabC_ok cF_ok) (callT_point _ _) 4 ?_
  simp (config := { maxSteps := 1000000 }) only [Int.zero_add, reduceCtorEq, Nat.reduceEqDiff, Nat.reduceAdd, Nat.reduceLT, Int.reduceToNat, Int.reduceLT, Int.reduceLE, Int.reduceAdd, Int.reduceNeg, wrap64, eq_self, decide_true, decide_false, Int.cast_ofNat_Int,  true_and, List.getElem?_cons_zero, List.getElem?_cons_succ, List.length_cons, List.length_nil, List.nil_append, List.take_zero, List.drop_zero, Nat.zero_add, Nat.add_zero, den_nil, den_o0, ↓gd_tt, ↓gd_ft, den_o1, kont_app, den_skip, den_reg, den_seq, den_cond, den_block, den_exit, den_ret, den_b, den_xb, den_xc, den_xu, den_u, finE_r, ↓reduceIte, ↓e_load, ↓e_idxS, ↓e_app, ↓e_mv, ↓e_bin, ↓u_binV, ↓u_srcOf, ↓u_srcSl, ↓binI, ↓evRes, Opd.ev, Sx.get, put, putO, del, dels, rd, rm, retOf, eta, SV.ren, Nat.le_refl, take_bytes, len_bytes, Nat.mul_one, Int.cast_ofNat_Int]

  have hb : bys (p1) = bys p1 := rfl
  rw [tk_app (a := p1) (b := p2) (by simp; try omega)]
  simp only [bytes_app]
  have hs : ∀ x : Nat, x ≤ x := Nat.le_refl
  refine ⟨?_, ?_, ?_, ?_, ?_, ?_, ?_, ?_, [(0, 0), (1, 0), (2, 0), (3, 0), (7, 0)], by simp [EntM, compat, apartM, keysBelow, eta, idHs, rd, Option.getD_some, List.length_cons, List.length_nil, Nat.zero_add, Nat.add_zero, Nat.reduceAdd, Nat.reduceLeDiff, ↓reduceIte, Kind.isOwn, List.take_succ_cons, List.take_zero, List.nil_append, List.cons_append, and_self, true_and, exists_eq_left', Option.some.injEq, ne_eq, implies_true, List.not_mem_nil, Bool.true_or, forall_const, ren_bytes], by simp [hT2, Option.getD_some, List.length_cons, List.length_nil, Nat.zero_add, Nat.add_zero, Nat.reduceAdd, Nat.reduceLeDiff]⟩ <;> first | omega | (simp only [List.length_append, len_bytes]; omega)
set_option maxHeartbeats 4000000 in
theorem f32_4 (p1 p2 p3 p4 : List UInt8) (c : Option Nat) (c1 c2 c3 c4 : Option Nat) (h0 : 0 < (p1 ++ p2 ++ p3 ++ p4).length) (hT : (p1 ++ p2 ++ p3 ++ p4).length ≤ 2 ^ 38) :
    Fun Tryd.prog tS 32 [.slc 0 0 1 4 c] [(0, ⟨.view, [.slc 1 0 1 p1.length c1, .slc 2 0 1 p2.length c2, .slc 3 0 1 p3.length c3, .slc 4 0 1 p4.length c4]⟩), (1, ⟨.view, bys p1⟩), (2, ⟨.view, bys p2⟩), (3, ⟨.view, bys p3⟩), (4, ⟨.view, bys p4⟩)] 5 (.slc 5 0 1 (p1 ++ p2 ++ p3 ++ p4).length none) [(5, ⟨.own 5, bys (p1 ++ p2 ++ p3 ++ p4)⟩)] 6 := by
  refine fun_any none (callS tabC cF) (callS_ok tabC_ok cF_ok) chk32 (show 1 ≤ 36 by decide) (by decide) ?_
  unfold sf32
  have hT2 : (p1 ++ p2 ++ p3 ++ p4).length = p1.length + p2.length + p3.length + p4.length := by simp [Nat.add_assoc]
  generalize hn : (p1 ++ p2 ++ p3 ++ p4).length = T at *
  have w1 : IntKind.i64.wrap ((p1.length : Nat) : Int) = ((p1.length : Nat) : Int) := wrap64_eq (by omega) (by omega)
  have v1 : ¬ ((p1.length : Nat) : Int) < 0 := by omega
  have w2 : IntKind.i64.wrap (((p1.length : Nat) : Int) + ((p2.length : Nat) : Int)) = ((p1.length + p2.length : Nat) : Int) := by rw [wrap64_eq (by omega) (by omega)]; omega
  have v2 : ¬ ((p1.length + p2.length : Nat) : Int) < 0 := by omega
  have w3 : IntKind.i64.wrap (((p1.length + p2.length : Nat) : Int) + ((p3.length : Nat) : Int)) = ((p1.length + p2.length + p3.length : Nat) : Int) := by rw [wrap64_eq (by omega) (by omega)]; omega
  have v3 : ¬ ((p1.length + p2.length + p3.length : Nat) : Int) < 0 := by omega
  have w4 : IntKind.i64.wrap (((p1.length + p2.length + p3.length : Nat) : Int) + ((p4.length : Nat) : Int)) = ((p1.length + p2.length + p3.length + p4.length : Nat) : Int) := by rw [wrap64_eq (by omega) (by omega)]; omega
  have v4 : ¬ ((p1.length + p2.length + p3.length + p4.length : Nat) : Int) < 0 := by omega
  have u0 : 0 < p1.length + p2.length + p3.length + p4.length := by omega
  have u1 : p1.length + p2.length + p3.length + p4.length ≤ 2 ^ 38 := by omega
  simp (config := { maxSteps := 1000000 }) only [tabC, reduceCtorEq, Nat.reduceEqDiff, eq_self, Int.cast_ofNat_Int, frOf, den_o0, den_o1, kont_app, den_reg, den_seq, den_block, ↓reduceIte, ↓e_mv, ↓e_len, Opd.ev, Sx.get, put, putO, del, dels, Int.cast_ofNat_Int]
  rw [den_loop]
  refine den_unroll (callS_ok tabC_ok cF_ok) (callT_point _ _) 5 ?_
  simp (config := { maxSteps := 1000000 }) only [↓gGrow_eq, Int.zero_add, u0, u1, w1, v1, w2, v2, w3, v3, w4, v4, lookF, reduceCtorEq, Nat.reduceEqDiff, Nat.reduceAdd, Nat.reduceLT, Int.reduceToNat, Int.reduceLT, Int.reduceLE, Int.reduceAdd, Int.reduceNeg, wrap64, eq_self, decide_true, decide_false, Int.cast_ofNat_Int,  true_and, List.getElem?_cons_zero, List.getElem?_cons_succ, List.length_cons, List.length_nil, List.append_nil, List.nil_append, List.cons_append, List.map_cons, List.map_nil, Nat.zero_add, Nat.add_zero, den_o0, ↓gd_tt, ↓gd_ft, den_o1, kont_app, den_skip, den_reg, den_seq, den_cond, den_block, den_exit, den_b, den_xb, den_xc, den_xu, den_u, ↓reduceIte, ↓e_load, ↓e_idxS, ↓e_mv, ↓e_bin, ↓e_call, ↓e_len, ↓u_binV, ↓binI, Opd.ev, Sx.get, put, putO, del, dels, rd, ↓u_callS, canLW, canV, belowL, apH, eta, SV.ren, newOwn, targets, rms, Kind.isOwn, ren_bytes, List.getElem?_nil, Option.getD_none, Nat.sub_zero, Nat.mul_one, Int.cast_ofNat_Int]
  rw [den_loop]
  refine den_unroll (callS_ok tabC_ok cF_ok) (callT_point _ _) 5 ?_
  simp (config := { maxSteps := 1000000 }) only [Int.zero_add, reduceCtorEq, Nat.reduceEqDiff, Nat.reduceAdd, Nat.reduceLT, Int.reduceToNat, Int.reduceLT, Int.reduceLE, Int.reduceAdd, Int.reduceNeg, wrap64, eq_self, decide_true, decide_false, Int.cast_ofNat_Int,  true_and, List.getElem?_cons_zero, List.getElem?_cons_succ, List.length_cons, List.length_nil, List.nil_append, List.take_zero, List.drop_zero, Nat.zero_add, Nat.add_zero, den_nil, den_o0, ↓gd_tt, ↓gd_ft, den_o1, kont_app, den_skip, den_reg, den_seq, den_cond, den_block, den_exit, den_ret, den_b, den_xb, den_xc, den_xu, den_u, finE_r, ↓reduceIte, ↓e_load, ↓e_idxS, ↓e_app, ↓e_mv, ↓e_bin, ↓u_binV, ↓u_srcOf, ↓u_srcSl, ↓binI, ↓evRes, Opd.ev, Sx.get, put, putO, del, dels, rd, rm, retOf, eta, SV.ren, Nat.le_refl, take_bytes, len_bytes, Nat.mul_one, Int.cast_ofNat_Int]

  have hb : bys (p1) = bys p1 := rfl
  rw [tk_app (a := p1) (b := p2) (by simp; try omega), tk_app (a := p1 ++ p2) (b := p3) (by simp; try omega)]
  simp only [bytes_app]
  have hs : ∀ x : Nat, x ≤ x := Nat.le_refl
  refine ⟨?_, ?_, ?_, ?_, ?_, ?_, ?_, ?_, ?_, ?_, ?_, [(0, 0), (1, 0), (2, 0), (3, 0), (4, 0), (9, 0)], by simp [EntM, compat, apartM, keysBelow, eta, idHs, rd, Option.getD_some, List.length_cons, List.length_nil, Nat.zero_add, Nat.add_zero, Nat.reduceAdd, Nat.reduceLeDiff, ↓reduceIte, Kind.isOwn, List.take_succ_cons, List.take_zero, List.nil_append, List.cons_append, and_self, true_and, exists_eq_left', Option.some.injEq, ne_eq, implies_true, List.not_mem_nil, Bool.true_or, forall_const, ren_bytes], by simp [hT2, Option.getD_some, List.length_cons, List.length_nil, Nat.zero_add, Nat.add_zero, Nat.reduceAdd, Nat.reduceLeDiff]⟩ <;> first | omega | (simp only [List.length_append, len_bytes]; omega)
def gCat : GS
  | [.slc 0 0 1 3 c], [(0, ⟨.view, [.slc 1 0 1 l1 c1, .slc 2 0 1 l2 c2, .slc 3 0 1 l3 c3]⟩), (1, ⟨.view, b1⟩), (2, ⟨.view, b2⟩), (3, ⟨.view, b3⟩)] => match unB b1, unB b2, unB b3 with
    | some p1, some p2, some p3 => if l1 = p1.length ∧ l2 = p2.length ∧ l3 = p3.length ∧ 0 < (p1 ++ p2 ++ p3).length ∧ (p1 ++ p2 ++ p3).length ≤ 2 ^ 38 then some (.slc 4 0 1 (p1 ++ p2 ++ p3).length none, [(4, ⟨.own 5, bys (p1 ++ p2 ++ p3)⟩)], 5) else none
    | _, _, _ => none
  | [.slc 0 0 1 4 c], [(0, ⟨.view, [.slc 1 0 1 l1 c1, .slc 2 0 1 l2 c2, .slc 3 0 1 l3 c3, .slc 4 0 1 l4 c4]⟩), (1, ⟨.view, b1⟩), (2, ⟨.view, b2⟩), (3, ⟨.view, b3⟩), (4, ⟨.view, b4⟩)] => match unB b1, unB b2, unB b3, unB b4 with
    | some p1, some p2, some p3, some p4 => if l1 = p1.length ∧ l2 = p2.length ∧ l3 = p3.length ∧ l4 = p4.length ∧ 0 < (p1 ++ p2 ++ p3 ++ p4).length ∧ (p1 ++ p2 ++ p3 ++ p4).length ≤ 2 ^ 38 then some (.slc 5 0 1 (p1 ++ p2 ++ p3 ++ p4).length none, [(5, ⟨.own 5, bys (p1 ++ p2 ++ p3 ++ p4)⟩)], 6) else none
    | _, _, _, _ => none
  | _, _ => none
theorem gCat_ok : FunS Tryd.prog tS 32 gCat := by
  intro a0 m0 r m1 n1 h
  unfold gCat at h
  split at h
  · split at h
    · rename_i h1 h2 h3
      split at h
      · rename_i hc
        cases h
        obtain ⟨rfl, rfl, rfl, k1, k2⟩ := hc
        rw [unB_some h1, unB_some h2, unB_some h3]
        exact ⟨f32_3 _ _ _ _ _ _ _ k1 k2, by simp [freshB]⟩
      · cases h
    · cases h
  · split at h
    · rename_i h1 h2 h3 h4
      split at h
      · rename_i hc
        cases h
        obtain ⟨rfl, rfl, rfl, rfl, k1, k2⟩ := hc
        rw [unB_some h1, unB_some h2, unB_some h3, unB_some h4]
        exact ⟨f32_4 _ _ _ _ _ _ _ _ _ k1 k2, by simp [freshB]⟩
      · cases h
    · cases h
  · cases h
end Go.Proofs.YtkfbkooobfepeaaDoor

/- The plain law of the encodings of integers: the program's and the reference's are the same. -/
namespace Go.Proofs.YtkfbkooobfepeaaDoor
open Go Go.Sx Sf
set_option maxRecDepth 100000
set_option linter.unusedSimpArgs false
set_option linter.unusedVariables false
def byN (m j : Nat) : Nat := m / 256 ^ j % 256
def magN (n : Int) : Nat := if n < 0 then (-1 - n).toNat else n.toNat
theorem magN_lt {n : Int} (h : R64 n) : magN n < 9223372036854775808 := by
  unfold magN R64 at *
  split <;> omega
theorem magR_eq {n : Int} (h : R64 n) : magR n = (magN n : Int) := by
  unfold magR magN R64 at *
  split
  · rw [wrap64_eq (by omega) (by omega)]; omega
  · omega
theorem wrapU64 (x : Int) : IntKind.u64.wrap x = x % 18446744073709551616 := by
  simp [IntKind.wrap, IntKind.bits, IntKind.signed]
theorem wrapU8' (x : Int) : IntKind.u8.wrap x = x % 256 := by
  simp [IntKind.wrap, IntKind.bits, IntKind.signed]
theorem xor_max64 (x : Int) : bitop .xor .u64 (if IntKind.u64.signed then -1 else IntKind.u64.max) x = 18446744073709551615 - x % 18446744073709551616 := by
  have hm : (if IntKind.u64.signed then (-1 : Int) else IntKind.u64.max) = 18446744073709551615 := by decide
  rw [hm]
  unfold bitop
  simp only
  have e1 : BitVec.ofInt IntKind.u64.bits 18446744073709551615 = BitVec.allOnes 64 := show BitVec.ofInt 64 18446744073709551615 = BitVec.allOnes 64 by decide
  have e2 : (BitVec.allOnes 64 ^^^ BitVec.ofInt 64 x) = ~~~ (BitVec.ofInt 64 x) := by
    rw [BitVec.allOnes_xor]
  rw [e1]
  show IntKind.u64.wrap ((BitVec.allOnes 64 ^^^ BitVec.ofInt 64 x).toNat : Int) = _
  rw [e2, BitVec.toNat_not, wrapU64, BitVec.toNat_ofInt]
  omega
theorem encM_eq {n : Int} (h : R64 n) : encM n = (magN n : Int) := by
  unfold encM magN R64 at *
  split
  · rw [xor_max64, wrapU64]; omega
  · rw [wrapU64]; omega
theorem xor8_0 (x : Int) (h : 0 ≤ x ∧ x < 256) : bitop .xor .u8 x 0 = x := by
  unfold bitop
  simp only
  show IntKind.u8.wrap ((BitVec.ofInt 8 x ^^^ BitVec.ofInt 8 0).toNat : Int) = x
  have e : (BitVec.ofInt 8 x ^^^ BitVec.ofInt 8 0) = BitVec.ofInt 8 x := by
    have : BitVec.ofInt 8 0 = 0#8 := by decide
    rw [this, BitVec.xor_zero]
  rw [e, wrapU8', BitVec.toNat_ofInt]
  omega
theorem xor8_255 (x : Int) (h : 0 ≤ x ∧ x < 256) : bitop .xor .u8 x 255 = 255 - x := by
  unfold bitop
  simp only
  show IntKind.u8.wrap ((BitVec.ofInt 8 x ^^^ BitVec.ofInt 8 255).toNat : Int) = _
  have e : (BitVec.ofInt 8 x ^^^ BitVec.ofInt 8 255) = ~~~ BitVec.ofInt 8 x := by
    have : BitVec.ofInt 8 255 = BitVec.allOnes 8 := by decide
    rw [this, BitVec.xor_comm, BitVec.allOnes_xor]
  rw [e, wrapU8', BitVec.toNat_not, BitVec.toNat_ofInt]
  omega
theorem nth8_eq {m j : Nat} (hj : j < 8) : nth8 (m : Int) j = ((m / 256 ^ j : Nat) : Int) := by
  unfold nth8
  have h1 : min (8 * j) IntKind.u64.bits = 8 * j := Nat.min_eq_left (by show 8 * j ≤ 64; omega)
  rw [h1]
  have h2 : ((2 : Int) ^ (8 * j)) = ((256 ^ j : Nat) : Int) := by
    rw [Int.pow_mul]; simp
  rw [h2]
  exact (Int.ofNat_fdiv _ _).symm
theorem wrap_nth8 {m j : Nat} (hj : j < 8) : IntKind.u8.wrap (nth8 (m : Int) j) = (byN m j : Int) := by
  rw [nth8_eq hj, wrapU8']; unfold byN; omega
theorem byN_lt (m j : Nat) : byN m j < 256 := Nat.mod_lt _ (by decide)
theorem byN_succ (m j : Nat) : byN m (j + 1) = byN (m / 256) j := by
  unfold byN; rw [Nat.pow_succ, Nat.mul_comm, Nat.div_div_eq_div_mul]
theorem nxtR_eq {m : Nat} (h : m < 9223372036854775808) : nxtR (m : Int) = ((m / 256 : Nat) : Int) := by
  unfold nxtR
  rw [Int.tdiv_eq_ediv_of_nonneg (by omega), wrap64_eq (by omega) (by omega)]; omega
theorem dig_eq : ∀ (m : Nat), m < 9223372036854775808 → dig (m : Int) = (List.range (dig (m : Int)).length).map fun j => UInt8.ofNat (byN m j)
  | 0, _ => by rw [dig_neg (by omega)]; rfl
  | m + 1, h => by
    have hp : ((m + 1 : Nat) : Int) > 0 := by omega
    have ih := dig_eq ((m + 1) / 256) (by omega)
    rw [dig_pos hp, nxtR_eq h]
    simp only [List.length_cons, List.range_succ_eq_map, List.map_cons, List.map_map]
    congr 1
    · unfold wrapB byN
      rw [wrapU8', Int.tmod_eq_emod_of_nonneg (by omega)]
      congr 1
      simp only [Nat.pow_zero, Nat.div_one]
      omega
    · conv => lhs; rw [ih]
      apply List.map_congr_left
      intro j _
      simp only [Function.comp, byN_succ]
termination_by m => m
decreasing_by omega
theorem dig_len_le : ∀ (k m : Nat), m < 9223372036854775808 → m < 256 ^ k → (dig (m : Int)).length ≤ k := fun k m h h' => dig_len k _ (by exact_mod_cast h')
theorem dig_len_gt : ∀ (k m : Nat), m < 9223372036854775808 → 256 ^ k ≤ m → k < (dig (m : Int)).length
  | 0, m, h, h' => by
    rw [dig_pos (by simp at h'; omega)]; simp
  | k + 1, m, h, h' => by
    have hk : 0 < 256 ^ (k + 1) := Nat.pow_pos (by decide)
    rw [dig_pos (by omega), nxtR_eq h]
    have := dig_len_gt k (m / 256) (by omega) (by rw [Nat.le_div_iff_mul_le (by decide)]; rw [Nat.pow_succ] at h'; exact h')
    simp only [List.length_cons]; omega
theorem topK_eq {m : Nat} (h : m < 9223372036854775808) : ∀ k, k ≤ 8 → m < 256 ^ k → topK (m : Int) k = (dig (m : Int)).length
  | 0, _, h' => by
    have : m = 0 := by simpa using h'
    subst this
    rw [dig_neg (by omega)]; rfl
  | k + 1, hk, h' => by
    unfold topK
    rw [nth8_eq (by omega)]
    have hpos : 0 < 256 ^ k := Nat.pow_pos (by decide)
    by_cases hc : 256 ^ k ≤ m
    · have h1 : 0 < m / 256 ^ k := Nat.div_pos hc hpos
      rw [if_pos (by exact_mod_cast h1)]
      have := dig_len_le (k + 1) m h h'
      have := dig_len_gt k m h hc
      omega
    · have h1 : m / 256 ^ k = 0 := Nat.div_eq_of_lt (by omega)
      rw [h1, if_neg (by decide)]
      exact topK_eq h k (by omega) (by omega)
theorem encTail_eq (m f : Int) : ∀ i, encTail m f i = (List.range i).reverse.map fun j => flipB (IntKind.u8.wrap (nth8 m j)) f
  | 0 => rfl
  | i + 1 => by
    rw [List.range_succ, List.reverse_append]
    simp only [encTail, List.reverse_cons, List.reverse_nil, List.nil_append, List.cons_append, List.map_cons]
    rw [encTail_eq m f i]
theorem enc_same {n : Int} (h : R64 n) : encI n = encR n := by
  have hm := magN_lt h
  have h8 : magN n < 256 ^ 8 := Nat.lt_trans hm (by decide)
  unfold encI encR hdR
  rw [encM_eq h, magR_eq h, topK_eq hm 8 (Nat.le_refl _) h8]
  have hl : (dig (magN n : Int)).length ≤ 8 := dig_len_le 8 _ hm h8
  generalize hK : (dig (magN n : Int)).length = K at *
  have hd := dig_eq _ hm
  rw [hK] at hd
  congr 1
  · unfold encHd encF flipB wrapB
    by_cases hn : n < 0
    · rw [if_pos hn, if_neg (by omega), xor8_255 _ (wrapU8_rng _), wrapU8', wrapU8', wrap64_eq (by omega) (by omega)]
      congr 1; omega
    · rw [if_neg hn, if_pos (by omega), xor8_0 _ (wrapU8_rng _), wrapU8', wrapU8', wrap64_eq (by omega) (by omega)]
  · rw [encTail_eq, hd, ← List.map_reverse, List.map_map]
    apply List.map_congr_left
    intro j hj
    have hj8 : j < 8 := by simp at hj; omega
    simp only [Function.comp]
    rw [wrap_nth8 hj8]
    have hb := byN_lt (magN n) j
    unfold encF turnR flipB wrapB
    by_cases hn : n < 0
    · rw [if_pos hn, if_pos hn, xor8_255 _ (by omega), wrapU8']
      congr 1
      simp only [UInt8.toNat_ofNat']
      omega
    · rw [if_neg hn, if_neg hn, xor8_0 _ (by omega)]
      congr 1
end Go.Proofs.YtkfbkooobfepeaaDoor

/- The plain law of the encodings of integers: nothing is the encoding of two, nor the beginning of another. -/
namespace Go.Proofs.YtkfbkooobfepeaaDoor
open Go Go.Sx Sf
set_option maxRecDepth 100000
set_option linter.unusedSimpArgs false
set_option linter.unusedVariables false
theorem hd_val {n : Int} {K : Nat} (hK : K ≤ 8) : encHd (encF n) K = UInt8.ofNat (if n < 0 then 127 - K else 128 + K) := by
  unfold encHd encF flipB
  by_cases hn : n < 0
  · rw [if_pos hn, if_pos hn, xor8_255 _ (wrapU8_rng _), wrapU8']
    congr 1; omega
  · rw [if_neg hn, if_neg hn, xor8_0 _ (wrapU8_rng _), wrapU8']
    congr 1; omega
theorem byN_inj : ∀ (K m m' : Nat), m < 256 ^ K → m' < 256 ^ K → (∀ j, j < K → byN m j = byN m' j) → m = m'
  | 0, m, m', h, h', _ => by simp at h h'; omega
  | K + 1, m, m', h, h', hb => by
    have h0 := hb 0 (by omega)
    simp only [byN, Nat.pow_zero, Nat.div_one] at h0
    rw [Nat.pow_succ] at h h'
    have ih := byN_inj K (m / 256) (m' / 256) (by omega) (by omega) (fun j hj => by
      have := hb (j + 1) (by omega)
      rwa [byN_succ, byN_succ] at this)
    omega
theorem encI_form' {n : Int} (h : R64 n) : ∃ K, K ≤ 8 ∧ magN n < 256 ^ K ∧ (K = 0 ∨ 256 ^ (K - 1) ≤ magN n) ∧ encI n = UInt8.ofNat (if n < 0 then 127 - K else 128 + K) :: (List.range K).reverse.map fun j => UInt8.ofNat (if n < 0 then 255 - byN (magN n) j else byN (magN n) j) := by
  have hm := magN_lt h
  have h8 : magN n < 256 ^ 8 := Nat.lt_trans hm (by decide)
  refine ⟨(dig (magN n : Int)).length, dig_len_le 8 _ hm h8, ?_, ?_, ?_⟩
  · rcases Nat.lt_or_ge (magN n) (256 ^ (dig (magN n : Int)).length) with h1 | h1
    · exact h1
    · have := dig_len_gt _ _ hm h1; omega
  · rcases Nat.eq_zero_or_pos (dig (magN n : Int)).length with h0 | h0
    · exact .inl h0
    · refine .inr ?_
      rcases Nat.lt_or_ge (magN n) (256 ^ ((dig (magN n : Int)).length - 1)) with h1 | h1
      · have := dig_len_le _ _ hm h1; omega
      · exact h1
  · unfold encI
    rw [encM_eq h, topK_eq hm 8 (Nat.le_refl _) h8]
    have hl : (dig (magN n : Int)).length ≤ 8 := dig_len_le 8 _ hm h8
    generalize (dig (magN n : Int)).length = K at *
    rw [hd_val hl, encTail_eq]
    congr 1
    apply List.map_congr_left
    intro j hj
    have hj8 : j < 8 := by simp at hj; omega
    rw [wrap_nth8 hj8]
    have hb := byN_lt (magN n) j
    unfold encF flipB
    by_cases hn : n < 0
    · rw [if_pos hn, if_pos hn, xor8_255 _ (by omega)]
      congr 1; omega
    · rw [if_neg hn, if_neg hn, xor8_0 _ (by omega)]
      congr 1
end Go.Proofs.YtkfbkooobfepeaaDoor

/- Package wire: the reading of an integer. -/
namespace Go.Proofs.YtkfbkooobfepeaaDoor
open Go Go.Sx Sf
set_option maxRecDepth 100000
set_option linter.unusedVariables false
variable {tS : List (Nat × List SV)}
def kOf (h : Nat) : Nat := if h < 128 then 127 - h else h - 128
def flU (h : Nat) (c : UInt8) : UInt8 := if h < 128 then UInt8.ofNat (255 - c.toNat) else c
def valB (l : List UInt8) : Nat := l.foldl (fun a c => a * 256 + c.toNat) 0
def decS (b : List UInt8) : Int × Nat × Int := match b with
  | [] => (0, 0, 5)
  | c :: r => if kOf c.toNat > 8 then (0, 0, 6) else if r.length < kOf c.toNat then (0, 0, 5) else
    if ((r.take (kOf c.toNat)).map (flU c.toNat)).head? = some 0 then (0, 0, 6) else
    if valB ((r.take (kOf c.toNat)).map (flU c.toNat)) ≥ 9223372036854775808 then (0, 0, 6) else
    ((if c.toNat < 128 then -1 - (valB ((r.take (kOf c.toNat)).map (flU c.toNat)) : Int) else (valB ((r.take (kOf c.toNat)).map (flU c.toNat)) : Int)), kOf c.toNat + 1, 0)
def tup3 (x : Int × Nat × Int) : SV := .tup [.int .i64 x.1, .int .i64 (x.2.1 : Int), .int .i64 x.2.2]

theorem valB_snoc (l : List UInt8) (c : UInt8) : valB (l ++ [c]) = valB l * 256 + c.toNat := by simp [valB]
theorem fold_lt : ∀ (l : List UInt8) (a : Nat), l.foldl (fun a c => a * 256 + c.toNat) a < (a + 1) * 256 ^ l.length
  | [], a => by simp
  | c :: l, a => by
    have := fold_lt l (a * 256 + c.toNat)
    have hc := c.toNat_lt
    simp only [List.foldl_cons, List.length_cons, Nat.pow_succ]
    have h1 : (a * 256 + c.toNat + 1) * 256 ^ l.length ≤ (a + 1) * 256 * 256 ^ l.length := Nat.mul_le_mul_right _ (by omega)
    have h2 : (a + 1) * 256 * 256 ^ l.length = (a + 1) * (256 ^ l.length * 256) := by rw [Nat.mul_assoc, Nat.mul_comm 256]
    omega
theorem valB_lt (l : List UInt8) : valB l < 256 ^ l.length := by have := fold_lt l 0; unfold valB; omega
theorem or_byte {m c : Nat} (hm : m < 72057594037927936) (hc : c < 256) : bitop .or .u64 (IntKind.u64.wrap ((m : Int) * 2 ^ (min 8 IntKind.u64.bits))) (IntKind.u64.wrap (c : Int)) = ((m * 256 + c : Nat) : Int) := by
  have e0 : min 8 IntKind.u64.bits = 8 := by decide
  rw [e0]
  have e1 : IntKind.u64.wrap ((m : Int) * 2 ^ 8) = ((m * 256 : Nat) : Int) := by rw [wrapU64]; omega
  have e2 : IntKind.u64.wrap (c : Int) = (c : Int) := by rw [wrapU64]; omega
  rw [e1, e2]
  unfold bitop
  simp only
  show IntKind.u64.wrap ((BitVec.ofInt 64 ((m * 256 : Nat) : Int) ||| BitVec.ofInt 64 (c : Int)).toNat : Int) = _
  rw [BitVec.toNat_or, BitVec.ofInt_natCast, BitVec.ofInt_natCast, BitVec.toNat_ofNat, BitVec.toNat_ofNat, Nat.mod_eq_of_lt (by omega), Nat.mod_eq_of_lt (by omega)]
  have : m * 256 ||| c = m * 256 + c := by
    have := Nat.shiftLeft_add_eq_or_of_lt (b := c) (i := 8) (by omega) m
    rw [Nat.shiftLeft_eq] at this
    exact this.symm
  rw [this, wrapU64]; omega
theorem kOf_le {h : Nat} (hh : h < 256) : kOf h < 128 := by unfold kOf; split <;> omega
theorem flU_val {h : Nat} {c : UInt8} : ((flU h c).toNat : Int) = bitop .xor .u8 (c.toNat : Int) (if h < 128 then 255 else 0) := by
  have hc := c.toNat_lt
  unfold flU
  by_cases hh : h < 128
  · rw [if_pos hh, if_pos hh, xor8_255 _ (by omega), UInt8.toNat_ofNat']; omega
  · rw [if_neg hh, if_neg hh, xor8_0 _ (by omega)]
def flI (h : Nat) : Int := if h < 128 then 255 else 0
set_option maxHeartbeats 8000000 in
theorem f59 (b : List UInt8) (hb : b.length ≤ 2 ^ 62) (cap : Option Nat) (hcap : CapOk cap b.length) :
    Fun Tryd.prog tS 59 [.slc 0 0 1 b.length cap] [(0, ⟨.view, bys b⟩)] 1 (tup3 (decS b)) [] 1 := by
  refine fun_any none cF cF_ok chk59 (show 1 ≤ 71 by decide) (by decide) ?_
  unfold sf59 tup3
  cases b with
  | nil =>
    have e0 : bys ([] : List UInt8) = [] := rfl
    simp (config := { maxSteps := 1000000 }) only [beq_self_eq_true, List.cons.injEq, SV.int.injEq, SV.tup.injEq, reduceCtorEq, Nat.reduceEqDiff, eq_self, Int.cast_ofNat_Int,  true_and, and_true, List.length_nil, frOf, den_nil, den_o0, ↓gd_tt, den_o1, kont_app, den_reg, den_seq, den_cond, den_ret, den_rc, finE_r, ↓reduceIte, ↓e_mv, ↓e_bin, ↓e_len, ↓u_binV, ↓binI, ↓evRes, Opd.ev, Sx.get, put, putO, del, dels, retOf, SV.ren, SV.renL, Int.cast_ofNat_Int]
    exact ⟨[(0, 0)], ⟨rfl, by simp [compat, apartM, keysBelow, idHs, List.take_succ_cons, List.nil_append, List.take_nil, and_self]⟩, rfl, rfl, rfl⟩
  | cons c r =>
    have hc := c.toNat_lt
    have g0 : (bys (c :: r))[0]? = some (.int .u8 (c.toNat : Int)) := get_bysI rfl
    have hne : ((c :: r).length : Int) ≠ 0 := by simp; omega
    have hl : (c :: r).length = r.length + 1 := rfl
    have hk := kOf_le hc
    have hkx : IntKind.i64.wrap (IntKind.i64.wrap (bitop .xor .u8 (c.toNat : Int) (flI c.toNat)) - 128) = (kOf c.toNat : Int) := by
      unfold flI kOf
      by_cases hh : c.toNat < 128
      · rw [if_pos hh, if_pos hh, xor8_255 _ (by omega), wrap64_eq (x := 255 - _) (by omega) (by omega), wrap64_eq (by omega) (by omega)]; omega
      · rw [if_neg hh, if_neg hh, xor8_0 _ (by omega), wrap64_eq (x := (c.toNat : Int)) (by omega) (by omega), wrap64_eq (by omega) (by omega)]; omega
    have key : (((c.toNat : Int) < 128) ∧ flI c.toNat = 255) ∨ (¬ ((c.toNat : Int) < 128) ∧ flI c.toNat = 0) := by
      unfold flI
      by_cases hh : c.toNat < 128
      · left; exact ⟨by omega, if_pos hh⟩
      · right; exact ⟨by omega, if_neg hh⟩
    have hlen0 : ((r.length + 1 : Nat) : Int) ≠ 0 := by omega
    have hb0 : (((r.length + 1 : Nat) : Int) == 0) = false := by simpa using hlen0
    have hl1 : (0 : Int) < ((r.length + 1 : Nat) : Int) := by omega
    have hbl := len_bytes (c :: r)
    rw [hl] at hbl
    rcases key with ⟨k1, k2⟩ | ⟨k1, k2⟩
    all_goals
      rw [k2] at hkx
      by_cases h8 : kOf c.toNat > 8
      · have h8' : (kOf c.toNat : Int) > 8 := by omega
        have hd : decS (c :: r) = (0, 0, 6) := by simp only [decS, h8, if_true]
        simp (config := { maxSteps := 1000000 }) only [hl, hb0, hl1, hbl, g0, k1, hkx, h8', hd, Nat.zero_lt_succ, reduceCtorEq, Nat.reduceEqDiff, Int.reduceToNat, Int.reduceLE, eq_self, decide_true, decide_false, Int.cast_ofNat_Int,  true_and, and_true, Nat.add_zero, frOf, den_nil, den_o0, ↓gd_tt, ↓gd_ft, den_o1, kont_app, den_skip, den_reg, den_seq, den_cond, den_block, den_ret, den_rb, den_rc, finE_r, ↓reduceIte, ↓e_load, ↓e_idxS, ↓e_mv, ↓e_bin, ↓e_conv, ↓e_len, ↓u_binV, ↓binI, ↓evRes, Opd.ev, Sx.get, put, putO, del, dels, rd, retOf, SV.ren, SV.renL, Nat.mul_one, Int.cast_ofNat_Int]
        exact ⟨[(0, 0)], rfl, by simp [compat, apartM, keysBelow, idHs, List.take_succ_cons, List.nil_append, List.take_nil, and_self]⟩
      have h8' : ¬ (kOf c.toNat : Int) > 8 := by omega
      by_cases hr : r.length < kOf c.toNat
      · have hr' : ((r.length + 1 : Nat) : Int) ≤ (kOf c.toNat : Int) := by omega
        have hd : decS (c :: r) = (0, 0, 5) := by simp only [decS, h8, hr, if_true, if_false]
        simp (config := { maxSteps := 1000000 }) only [hl, hb0, hl1, hbl, g0, k1, hkx, h8', hr', hd, Nat.zero_lt_succ, reduceCtorEq, Nat.reduceEqDiff, Int.reduceToNat, Int.reduceLE, eq_self, decide_true, decide_false, Int.cast_ofNat_Int,  true_and, and_true, Nat.add_zero, frOf, den_nil, den_o0, ↓gd_tt, ↓gd_ft, den_o1, kont_app, den_skip, den_reg, den_seq, den_cond, den_block, den_ret, den_rb, den_rc, finE_r, ↓reduceIte, ↓e_load, ↓e_idxS, ↓e_mv, ↓e_bin, ↓e_conv, ↓e_len, ↓u_binV, ↓binI, ↓evRes, Opd.ev, Sx.get, put, putO, del, dels, rd, retOf, SV.ren, SV.renL, Nat.mul_one, Int.cast_ofNat_Int]
        exact ⟨[(0, 0)], rfl, by simp [compat, apartM, keysBelow, idHs, List.take_succ_cons, List.nil_append, List.take_nil, and_self]⟩
      have hr' : ¬ ((r.length + 1 : Nat) : Int) ≤ (kOf c.toNat : Int) := by omega
      have hdec : decS (c :: r) = if ((r.take (kOf c.toNat)).map (flU c.toNat)).head? = some 0 then (0, 0, 6) else
          if valB ((r.take (kOf c.toNat)).map (flU c.toNat)) ≥ 9223372036854775808 then (0, 0, 6) else
          ((if c.toNat < 128 then -1 - (valB ((r.take (kOf c.toNat)).map (flU c.toNat)) : Int) else (valB ((r.take (kOf c.toNat)).map (flU c.toNat)) : Int)), kOf c.toNat + 1, 0) := by
        simp only [decS, h8, hr, if_false]
      have hfl : ∀ y : UInt8, ((flU c.toNat y).toNat : Int) = bitop .xor .u8 (y.toNat : Int) (flI c.toNat) := fun y => flU_val
      rw [k2] at hfl
      generalize hK : kOf c.toNat = K at *
      generalize hD : (r.take K).map (flU c.toNat) = D at *
      have hDl : D.length = K := by rw [← hD]; simp; omega
      by_cases hz : D.head? = some 0
      · have hd : decS (c :: r) = (0, 0, 6) := by rw [hdec, if_pos hz]
        obtain ⟨y, hy, hy0⟩ : ∃ y, r[0]? = some y ∧ flU c.toNat y = 0 := by
          rw [← hD] at hz
          cases r with
          | nil => simp at hz
          | cons y r' =>
            cases K with
            | zero => simp at hz
            | succ K => simp at hz; exact ⟨y, rfl, hz⟩
        have hK0 : (K : Int) > 0 := by
          cases K with
          | zero => simp at hDl; rw [hDl] at hz; simp at hz
          | succ K => omega
        have g1 : (bys (c :: r))[1]? = some (.int .u8 (y.toNat : Int)) := get_bysI (by simpa using hy)
        have h0 := hfl y
        rw [hy0] at h0
        have h0 : bitop .xor .u8 (y.toNat : Int) _ = 0 := h0.symm
        have hl2 : (1 : Int) < ((r.length + 1 : Nat) : Int) := by omega
        have hl3 : 1 < r.length + 1 := by omega
        simp (config := { maxSteps := 1000000 }) only [hl, hb0, hl1, hl2, hl3, hbl, g0, g1, h0, k1, hkx, h8', hr', hK0, hd, Nat.zero_lt_succ, beq_self_eq_true, setv, reduceCtorEq, Nat.reduceEqDiff, Int.reduceToNat, Int.reduceLE, eq_self, decide_true, decide_false, Int.cast_ofNat_Int,  true_and, and_true, Nat.zero_add, Nat.add_zero, frOf, den_nil, den_o0, ↓gd_tt, ↓gd_ft, den_o1, kont_app, den_g, setv, den_skip, den_reg, den_seq, den_cond, den_block, den_ret, den_rb, den_rc, finE_r, ↓reduceIte, ↓e_load, ↓e_idxS, ↓e_mv, ↓e_pick, ↓e_bin, ↓e_conv, ↓e_len, ↓u_binV, ↓binI, ↓evRes, Opd.ev, Sx.get, put, putO, del, dels, rd, retOf, SV.ren, SV.renL, Nat.mul_one, Int.cast_ofNat_Int]
        exact ⟨[(0, 0)], rfl, by simp [compat, apartM, keysBelow, idHs, List.take_succ_cons, List.nil_append, List.take_nil, and_self]⟩
      have wK : IntKind.i64.wrap ((K : Int) + 1) = ((K + 1 : Nat) : Int) := by rw [wrap64_eq (by omega) (by omega)]; omega
      by_cases hK0 : (K : Int) > 0
      case' pos =>
        obtain ⟨y, hy⟩ : ∃ y, r[0]? = some y := ⟨_, List.getElem?_eq_getElem (by omega)⟩
        have g1 : (bys (c :: r))[1]? = some (.int .u8 (y.toNat : Int)) := get_bysI (by simpa using hy)
        have hhd : D.head? = some (flU c.toNat y) := by
          rw [← hD]
          cases r with
          | nil => simp at hy
          | cons y' r' =>
            simp at hy
            obtain ⟨K', rfl⟩ : ∃ K', K = K' + 1 := ⟨K - 1, by omega⟩
            rw [← hy]; simp
        have h0 : (bitop .xor .u8 (y.toNat : Int) (flI c.toNat) == 0) = false := by
          rw [beq_eq_false_iff_ne, k2, ← hfl y]
          intro h
          apply hz
          rw [hhd]
          congr 1
          exact UInt8.toNat_inj.1 (by simpa using h)
        rw [k2] at h0
        have hl2 : (1 : Int) < ((r.length + 1 : Nat) : Int) := by omega
        have hl3 : 1 < r.length + 1 := by omega
        simp (config := { maxSteps := 1000000 }) only [hl, hb0, hl1, hl2, hl3, hbl, g0, g1, h0, k1, hkx, h8', hr', hK0, wK, Nat.add_sub_cancel, Nat.zero_lt_succ, setv, reduceCtorEq, Nat.reduceEqDiff, Int.reduceToNat, Int.reduceLE, eq_self, decide_true, decide_false,  true_and, Nat.zero_add, Nat.add_zero, frOf, den_o0, ↓gd_tt, ↓gd_ft, den_o1, kont_app, den_g, setv, den_skip, den_reg, den_seq, den_cond, den_block, den_b, ↓reduceIte, ↓e_load, ↓e_idxS, ↓e_slcS, ↓e_mv, ↓e_pick, ↓e_bin, ↓e_conv, ↓e_len, ↓u_onOpt1, ↓u_binV, ↓binI, Opd.ev, Sx.get, put, putO, del, dels, rd, Nat.le_refl, Int.toNat_natCast, Nat.mul_one]
        refine ⟨by cases cap with
          | none => trivial
          | some q => exact hcap q rfl, by omega, by omega, ?_⟩
      case' neg =>
        simp (config := { maxSteps := 1000000 }) only [hl, hb0, hl1, hbl, g0, k1, hkx, h8', hr', hK0, wK, Nat.add_sub_cancel, Nat.zero_lt_succ, undef, setv, reduceCtorEq, Nat.reduceEqDiff, Int.reduceToNat, Int.reduceLE, eq_self, decide_true, decide_false,  true_and, Nat.zero_add, Nat.add_zero, frOf, den_o0, ↓gd_tt, ↓gd_ft, den_o1, kont_app, den_g, setv, Bool.not_true, den_skip, den_reg, Bool.not_true, den_seq, den_cond, den_block, den_b, ↓reduceIte, ↓e_load, ↓e_idxS, ↓e_slcS, ↓e_mv, ↓e_pick, ↓e_bin, ↓e_conv, ↓e_len, ↓u_onOpt1, ↓u_binV, ↓binI, Opd.ev, Sx.get, put, putO, del, dels, rd, Nat.le_refl, Int.toNat_natCast, Nat.mul_one]
        refine ⟨by cases cap with
          | none => trivial
          | some q => exact hcap q rfl, by omega, by omega, ?_⟩
      all_goals
        rw [den_loop]
        refine den_inv cF_ok (σ := Nat) (fun i => [(48, .int .i64 (i : Int)), (47, .int .i64 (K : Int)), (46, .slc 0 1 1 K (cap.map (fun x => x - 1))), (7, .int .u64 (valB (D.take i) : Int)), (6, .int .i64 (K : Int)), (5, .int .u8 (flI c.toNat))])
          (fun _ => [(0, ⟨.view, bys (c :: r)⟩)]) (fun _ => 1) (fun i => i ≤ K) (fun i => K - i) 0 ⟨[(0, 0)], by simp [EntM, compat, apartM, keysBelow, eta, idHs, rd, Option.getD_some, List.length_cons, List.length_nil, Nat.zero_add, Nat.add_zero, ↓reduceIte, Kind.isOwn, List.take_succ_cons, List.nil_append, List.take_nil, and_self, exists_eq_left', Option.some.injEq, List.drop_zero, ne_eq, implies_true, List.not_mem_nil, Bool.false_or, ren_bytes, len_bytes, take_bys1], by simp [k2, valB, frEnt, geto, eta, SV.ren, Option.getD_some, List.length_cons, List.length_nil, Nat.zero_add, Nat.add_zero, Nat.reduceEqDiff, ↓reduceIte, List.take_zero, and_self, Nat.succ_ne_self]⟩ (Nat.zero_le _) ?_
        intro i hi
        rw [k2]
        by_cases hiK : i < K
        · have d1 : (i : Int) < (K : Int) := by omega
          have d2 : (0 : Int) ≤ (i : Int) := by omega
          have wi : IntKind.i64.wrap ((i : Int) + 1) = ((i + 1 : Nat) : Int) := by rw [wrap64_eq (by omega) (by omega)]; omega
          obtain ⟨y, hy⟩ : ∃ y, r[i]? = some y := ⟨_, List.getElem?_eq_getElem (by omega)⟩
          have gy : (bys (c :: r))[1 + i]? = some (.int .u8 (y.toNat : Int)) := get_bysI (by rw [Nat.add_comm, List.getElem?_cons_succ]; exact hy)
          have hDi : D[i]? = some (flU c.toNat y) := by
            rw [← hD, List.getElem?_map, List.getElem?_take_of_lt hiK, hy]; rfl
          have hv : valB (D.take (i + 1)) = valB (D.take i) * 256 + (flU c.toNat y).toNat := by
            rw [List.take_add_one, hDi]; exact valB_snoc _ _
          have hlt : valB (D.take i) < 72057594037927936 := by
            have h1 := valB_lt (D.take i)
            have h2 : 256 ^ (D.take i).length ≤ 256 ^ 7 := Nat.pow_le_pow_right (by decide) (by simp; omega)
            have h3 : (256 : Nat) ^ 7 = 72057594037927936 := by decide
            omega
          have hor := or_byte hlt (flU c.toNat y).toNat_lt
          rw [hfl y, ← hv] at hor
          have q1 : 1 + i < r.length + 1 := by omega
          simp (config := { maxSteps := 1000000 }) only [hbl, gy, d1, d2, q1, wi, hor, again_n, Nat.reduceEqDiff, Int.reduceToNat, Int.reduceLE, eq_self, decide_true,  true_and, den_nil, den_o0, ↓gd_tt, den_o1, kont_app, den_skip, den_reg, den_seq, den_cond, den_block, den_b, ↓reduceIte, ↓e_load, ↓e_idxS, ↓e_mv, ↓e_bin, ↓e_conv, ↓u_binV, ↓binI, Opd.ev, Sx.get, put, putO, del, dels, rd, Int.toNat_natCast, Nat.mul_one]
          exact ⟨i + 1, ⟨[(0, 0)], by simp [EntM, compat, apartM, keysBelow, eta, idHs, rd, Option.getD_some, List.length_cons, List.length_nil, Nat.zero_add, Nat.add_zero, ↓reduceIte, Kind.isOwn, List.take_succ_cons, List.nil_append, List.take_nil, and_self, exists_eq_left', Option.some.injEq, List.drop_zero, ne_eq, implies_true, List.not_mem_nil, Bool.false_or, ren_bytes, len_bytes, take_bys1], by simp [frEnt, geto, eta, SV.ren, Option.getD_some, List.length_cons, List.length_nil, Nat.zero_add, Nat.add_zero, Nat.reduceEqDiff, ↓reduceIte, and_self, Nat.succ_ne_self]⟩, by omega, by omega⟩
        · obtain rfl : i = K := by omega
          have d1 : ¬ (i : Int) < (i : Int) := by omega
          rw [show D.take i = D from List.take_of_length_le (by omega)]
          simp (config := { maxSteps := 1000000 }) only [d1, Int.reduceGT, List.cons.injEq, SV.int.injEq, SV.tup.injEq, again_x, Nat.reduceEqDiff, Int.reduceToNat, Int.reduceLE, Int.reduceNeg, eq_self, decide_true, decide_false,  true_and, and_true, den_nil, den_o0, ↓gd_tt, ↓gd_ft, gd_any, den_o1, kont_app, Bool.not_true, den_skip, den_reg, Bool.not_true, den_seq, den_cond, den_exit, den_ret, den_xb, den_xc, den_rc, finE_r, ↓reduceIte, ↓e_mv, ↓e_bin, ↓e_un, ↓e_conv, ↓u_binV, ↓binI, ↓evRes, Opd.ev, Sx.get, put, putO, del, dels, retOf, SV.ren, SV.renL]
          have hm := valB_lt D
          have hm8 : valB D < 18446744073709551616 := by
            have h2 : 256 ^ D.length ≤ 256 ^ 8 := Nat.pow_le_pow_right (by decide) (by omega)
            have h3 : (256 : Nat) ^ 8 = 18446744073709551616 := by decide
            omega
          have e63 : min 63 IntKind.u64.bits = 63 := by decide
          have hsh : ((valB D : Int).fdiv (2 ^ min 63 IntKind.u64.bits) > 0) ↔ valB D ≥ 9223372036854775808 := by
            rw [e63]
            have : ((valB D : Int)).fdiv (2 ^ 63) = ((valB D / 9223372036854775808 : Nat) : Int) := (Int.ofNat_fdiv _ _).symm
            rw [this]
            omega
          constructor
          · intro h1
            have h1 := hsh.1 (of_decide_eq_true h1)
            have hd : decS (c :: r) = (0, 0, 6) := by rw [hdec, if_neg hz, if_pos h1]
            rw [hd]
            exact ⟨[(0, 0)], ⟨rfl, by simp [compat, apartM, keysBelow, idHs, List.take_succ_cons, List.nil_append, List.take_nil, and_self]⟩, rfl, rfl, rfl⟩
          · intro h1
            have h1 : ¬ valB D ≥ 9223372036854775808 := fun h => of_decide_eq_false h1 (hsh.2 h)
            refine ⟨[(0, 0)], ⟨rfl, by simp [compat, apartM, keysBelow, idHs, List.take_succ_cons, List.nil_append, List.take_nil, and_self]⟩, ?_⟩
            rw [hdec, if_neg hz, if_neg h1]
            first
              | (rw [if_pos (show c.toNat < 128 by omega), xor_max64]
                 exact ⟨by rw [IntKind.wrap]; simp [IntKind.bits, IntKind.signed]; omega, wK, rfl⟩)
              | (rw [if_neg (show ¬ c.toNat < 128 by omega)]
                 exact ⟨wrap64_eq (by omega) (by omega), wK, rfl⟩)
def gGetInt : GS
  | [.slc 0 0 1 len cap], [(0, ⟨.view, cells⟩)] => match unB cells with
    | some b => if len = b.length ∧ b.length ≤ 2 ^ 40 then (match capB cap b.length with
      | true => some (tup3 (decS b), [], 1)
      | false => none) else none
    | none => none
  | _, _ => none
theorem gGetInt_ok : FunS Tryd.prog tS 59 gGetInt := by
  intro a0 m0 r m1 n1 h
  unfold gGetInt at h
  split at h
  · split at h
    · rename_i b hb
      split at h
      · rename_i hc
        split at h
        · rename_i hcap
          cases h
          obtain ⟨rfl, h1⟩ := hc
          rw [unB_some hb]
          exact ⟨f59 b (by omega) _ (capB_ok hcap), by simp [freshB]⟩
        · cases h
      · cases h
    · cases h
  · cases h
end Go.Proofs.YtkfbkooobfepeaaDoor

/- The plain law of reading an integer. -/
namespace Go.Proofs.YtkfbkooobfepeaaDoor
open Go Go.Sx Sf
set_option maxRecDepth 100000
set_option linter.unusedSimpArgs false
set_option linter.unusedVariables false
def valR : List UInt8 → Nat
  | [] => 0
  | c :: l => valR l * 256 + c.toNat
theorem valB_R (l : List UInt8) : valB l = valR l.reverse := by
  unfold valB
  rw [List.foldl_eq_foldr_reverse]
  generalize l.reverse = q
  induction q with
  | nil => rfl
  | cons c q ih => simp only [List.foldr_cons, valR, ih]
theorem valR_byN : ∀ (l : List UInt8) (j : Nat) (c : UInt8), l[j]? = some c → byN (valR l) j = c.toNat
  | [], j, c, h => by simp at h
  | x :: l, 0, c, h => by
    simp at h; subst h
    have := x.toNat_lt
    simp only [valR, byN, Nat.pow_zero, Nat.div_one]; omega
  | x :: l, j + 1, c, h => by
    have hx := x.toNat_lt
    rw [byN_succ, show valR (x :: l) / 256 = valR l by simp only [valR]; omega]
    exact valR_byN l j c (by simpa using h)
theorem valB_byN {l : List UInt8} {i : Nat} {c : UInt8} (hi : l[i]? = some c) : byN (valB l) (l.length - 1 - i) = c.toNat := by
  have hl : i < l.length := (List.getElem?_eq_some_iff.1 hi).1
  rw [valB_R]
  apply valR_byN
  rw [List.getElem?_reverse (by omega)]
  rw [show l.length - 1 - (l.length - 1 - i) = i by omega]
  exact hi
theorem valB_top {c : UInt8} {l : List UInt8} (h : c ≠ 0) : 256 ^ l.length ≤ valB (c :: l) := by
  have hf : ∀ (l : List UInt8) (a : Nat), a * 256 ^ l.length ≤ l.foldl (fun a c => a * 256 + c.toNat) a := by
    intro l
    induction l with
    | nil => intro a; simp
    | cons x l ih =>
      intro a
      have := ih (a * 256 + x.toNat)
      simp only [List.foldl_cons, List.length_cons, Nat.pow_succ]
      have h1 : a * (256 ^ l.length * 256) ≤ (a * 256 + x.toNat) * 256 ^ l.length := by
        rw [Nat.mul_comm (256 ^ l.length) 256, ← Nat.mul_assoc]; exact Nat.mul_le_mul_right _ (by omega)
      omega
  have h0 : 1 ≤ c.toNat := by
    rcases Nat.eq_zero_or_pos c.toNat with h1 | h1
    · exact absurd (UInt8.toNat_inj.1 (by simpa using h1)) h
    · exact h1
  unfold valB
  simp only [List.foldl_cons, Nat.zero_mul, Nat.zero_add]
  have := hf l c.toNat
  have h1 : 1 * 256 ^ l.length ≤ c.toNat * 256 ^ l.length := Nat.mul_le_mul_right _ h0
  omega
theorem valB_top0 {l : List UInt8} : valB (0 :: l) < 256 ^ l.length := by
  have := fold_lt l 0
  unfold valB
  simp only [List.foldl_cons]
  simpa using this

def numS (c : UInt8) (D : List UInt8) : Int := if c.toNat < 128 then -1 - (valB D : Int) else (valB D : Int)
theorem numS_facts {c : UInt8} {D : List UInt8} (h : valB D < 9223372036854775808) : R64 (numS c D) ∧ magN (numS c D) = valB D ∧ (numS c D < 0 ↔ c.toNat < 128) := by
  unfold numS magN R64
  by_cases hc : c.toNat < 128
  · simp only [hc, if_true]
    rw [if_pos (by omega)]
    exact ⟨by omega, by omega, by simp; omega⟩
  · simp only [hc, if_false]
    rw [if_neg (by omega)]
    exact ⟨by omega, by omega, by simp⟩
theorem flU_inv {h : Nat} {y : UInt8} : UInt8.ofNat (if h < 128 then 255 - (flU h y).toNat else (flU h y).toNat) = y := by
  have hy := y.toNat_lt
  apply UInt8.toNat_inj.1
  unfold flU
  by_cases hh : h < 128
  · simp only [hh, if_true, UInt8.toNat_ofNat']; omega
  · simp only [hh, if_false, UInt8.toNat_ofNat']; omega
theorem enc_of_dec {c : UInt8} {r : List UInt8} (h8 : kOf c.toNat ≤ 8) (hr : kOf c.toNat ≤ r.length) (hz : ((r.take (kOf c.toNat)).map (flU c.toNat)).head? ≠ some 0)
    (hv : valB ((r.take (kOf c.toNat)).map (flU c.toNat)) < 9223372036854775808) : encI (numS c ((r.take (kOf c.toNat)).map (flU c.toNat))) = c :: r.take (kOf c.toNat) := by
  obtain ⟨hn, hm, hs⟩ := numS_facts (c := c) hv
  obtain ⟨K, h1, h2, h3, h4⟩ := encI_form' hn
  rw [h4]
  rw [hm] at h2 h3
  have hcl := c.toNat_lt
  generalize hk : kOf c.toNat = k at *
  generalize hD : (r.take k).map (flU c.toNat) = D at *
  have hDl : D.length = k := by rw [← hD]; simp; omega
  have hK : K = k := by
    have hlt := valB_lt D
    rw [hDl] at hlt
    cases D with
    | nil =>
      simp at hDl
      rcases h3 with h3 | h3
      · omega
      · have : 0 < 256 ^ (K - 1) := Nat.pow_pos (by decide)
        simp [valB] at h3
    | cons d D =>
      have hd : d ≠ 0 := by intro h; apply hz; simp [h]
      have htop := valB_top (l := D) hd
      simp at hDl
      rcases Nat.lt_trichotomy K k with hlt2 | rfl | hgt
      · have : 256 ^ K ≤ 256 ^ D.length := Nat.pow_le_pow_right (by decide) (by omega)
        omega
      · rfl
      · rcases h3 with h3 | h3
        · omega
        · have : 256 ^ k ≤ 256 ^ (K - 1) := Nat.pow_le_pow_right (by decide) (by omega)
          omega
  subst hK
  congr 1
  · apply UInt8.toNat_inj.1
    have hkk : kOf c.toNat = K := hk
    unfold kOf at hkk
    by_cases hc : c.toNat < 128
    · rw [if_pos (hs.2 hc), UInt8.toNat_ofNat']
      rw [if_pos hc] at hkk; omega
    · rw [if_neg (fun h => hc (hs.1 h)), UInt8.toNat_ofNat']
      rw [if_neg hc] at hkk; omega
  · apply List.ext_getElem?
    intro i
    by_cases hi : i < K
    · obtain ⟨y, hy⟩ : ∃ y, r[i]? = some y := ⟨_, List.getElem?_eq_getElem (by omega)⟩
      have hDi : D[i]? = some (flU c.toNat y) := by
        rw [← hD, List.getElem?_map, List.getElem?_take_of_lt hi, hy]; rfl
      have hb := valB_byN hDi
      rw [hDl] at hb
      rw [List.getElem?_take_of_lt hi, hy, List.getElem?_map, List.getElem?_reverse (by simpa using hi), List.length_range, List.getElem?_range (by omega)]
      simp only [Option.map_some, Option.some.injEq]
      rw [hm, hb]
      have := flU_inv (h := c.toNat) (y := y)
      by_cases hc : c.toNat < 128
      · rw [if_pos (hs.2 hc)]; rw [if_pos hc] at this; exact this
      · rw [if_neg (fun h => hc (hs.1 h))]; rw [if_neg hc] at this; exact this
    · rw [List.getElem?_eq_none (by simp; omega), List.getElem?_eq_none (by simp; omega)]
theorem enc_of_zero {c : UInt8} {D : List UInt8} (hz : D.head? = some 0) (hv : valB D < 9223372036854775808) : (encI (numS c D)).length ≠ D.length + 1 := by
  obtain ⟨hn, hm, hs⟩ := numS_facts (c := c) hv
  obtain ⟨K, h1, h2, h3, h4⟩ := encI_form' hn
  rw [h4]
  rw [hm] at h3
  cases D with
  | nil => simp at hz
  | cons d D =>
    simp at hz
    subst hz
    have htop := valB_top0 (l := D)
    simp only [List.length_cons, List.length_map, List.length_reverse, List.length_range]
    intro he
    rcases h3 with h3 | h3
    · omega
    · rw [show K - 1 = D.length by omega] at h3; omega
theorem dec_enc {n : Int} (h : R64 n) (q : List UInt8) : decS (encI n ++ q) = (n, (encI n).length, 0) := by
  obtain ⟨K, h1, h2, h3, h4⟩ := encI_form' h
  have hm := magN_lt h
  rw [h4, List.cons_append]
  generalize hT : (List.range K).reverse.map (fun j => UInt8.ofNat (if n < 0 then 255 - byN (magN n) j else byN (magN n) j)) = T at *
  have hTl : T.length = K := by rw [← hT]; simp
  generalize hc : UInt8.ofNat (if n < 0 then 127 - K else 128 + K) = c at *
  have hcv : c.toNat = if n < 0 then 127 - K else 128 + K := by
    rw [← hc, UInt8.toNat_ofNat']; split <;> omega
  have hk : kOf c.toNat = K := by
    rw [hcv]; unfold kOf
    by_cases hn : n < 0
    · rw [if_pos hn, if_pos (by omega)]; omega
    · rw [if_neg hn, if_neg (by omega)]; omega
  have hsg : c.toNat < 128 ↔ n < 0 := by
    rw [hcv]
    by_cases hn : n < 0
    · rw [if_pos hn]; exact ⟨fun _ => hn, fun _ => by omega⟩
    · rw [if_neg hn]; exact ⟨fun h => by omega, fun h => absurd h hn⟩
  have htake : (T ++ q).take K = T := List.take_left' hTl
  have hDi : ∀ i, i < K → (T.map (flU c.toNat))[i]? = some (UInt8.ofNat (byN (magN n) (K - 1 - i))) := by
    intro i hi
    rw [← hT, List.map_map, List.getElem?_map, List.getElem?_reverse (by simpa using hi), List.length_range, List.getElem?_range (by omega)]
    simp only [Option.map_some, Function.comp, Option.some.injEq]
    have hb := byN_lt (magN n) (K - 1 - i)
    unfold flU
    apply UInt8.toNat_inj.1
    by_cases hn : n < 0
    · rw [if_pos (hsg.2 hn), if_pos hn]
      simp only [UInt8.toNat_ofNat']; omega
    · rw [if_neg (fun h => hn (hsg.1 h)), if_neg hn]
  have hDl : (T.map (flU c.toNat)).length = K := by simp [hTl]
  have hv : valB (T.map (flU c.toNat)) = magN n := by
    have hlt := valB_lt (T.map (flU c.toNat))
    rw [hDl] at hlt
    refine byN_inj K _ _ hlt h2 fun j hj => ?_
    have := valB_byN (hDi (K - 1 - j) (by omega))
    rw [hDl, show K - 1 - (K - 1 - j) = j by omega, UInt8.toNat_ofNat'] at this
    have hb := byN_lt (magN n) j
    omega
  have hz : (T.map (flU c.toNat)).head? ≠ some 0 := by
    intro hz
    have hK0 : 0 < K := by
      rcases Nat.eq_zero_or_pos K with h0 | h0
      · rw [List.length_eq_zero_iff.1 (hDl.trans h0)] at hz; simp at hz
      · exact h0
    have h0 := hDi 0 hK0
    rw [← List.head?_eq_getElem?, hz] at h0
    have hb := byN_lt (magN n) (K - 1 - 0)
    have := congrArg UInt8.toNat (Option.some.inj h0)
    rw [UInt8.toNat_ofNat'] at this
    have hb0 : byN (magN n) (K - 1) = 0 := by
      have e0 : (0 : UInt8).toNat = 0 := rfl
      rw [e0, Nat.sub_zero] at this
      have hb' := byN_lt (magN n) (K - 1)
      omega
    rcases h3 with h3 | h3
    · omega
    · unfold byN at hb0
      have h5 : 0 < magN n / 256 ^ (K - 1) := Nat.div_pos h3 (Nat.pow_pos (by decide))
      have h6 : magN n / 256 ^ (K - 1) < 256 := by
        rw [Nat.div_lt_iff_lt_mul (Nat.pow_pos (by decide)), Nat.mul_comm, ← Nat.pow_succ, show (K - 1).succ = K by omega]; exact h2
      omega
  simp only [decS, hk, htake]
  rw [if_neg (by omega), if_neg (by simp [hTl]), if_neg hz, hv, if_neg (by omega)]
  simp only [List.length_cons, hTl, Prod.mk.injEq, and_true]
  unfold magN R64 at *
  by_cases hn : n < 0
  · rw [if_pos (hsg.2 hn), if_pos hn]; omega
  · rw [if_neg (fun h => hn (hsg.1 h)), if_neg hn]; omega
theorem enc_dec {b : List UInt8} {n : Int} {u : Nat} (h : decS b = (n, u, 0)) : R64 n ∧ u ≤ b.length ∧ b.take u = encI n := by
  unfold decS at h
  split at h
  · simp at h
  · rename_i c r
    split at h
    · simp at h
    · split at h
      · simp at h
      · split at h
        · simp at h
        · split at h
          · simp at h
          · rename_i h1 h2 h3 h4
            simp only [Prod.mk.injEq, and_true] at h
            obtain ⟨h5, rfl⟩ := h
            have hn : n = numS c ((r.take (kOf c.toNat)).map (flU c.toNat)) := h5.symm
            rw [hn, enc_of_dec (by omega) (by omega) h3 (by omega)]
            exact ⟨(numS_facts (by omega)).1, by simp; omega, by simp⟩
end Go.Proofs.YtkfbkooobfepeaaDoor

/- The reference's reading of an integer. -/
namespace Go.Proofs.YtkfbkooobfepeaaDoor
open Go Go.Sx Sf
set_option maxRecDepth 100000
set_option linter.unusedVariables false
variable {tS : List (Nat × List SV)}
theorem f72 (a b : List UInt8) (ha : a.length ≤ 2 ^ 62) (cap cap' : Option Nat) :
    Fun Tryd.prog tS 72 [.slc 0 0 1 a.length cap, .slc 1 0 1 b.length cap'] [(0, ⟨.view, bys a⟩), (1, ⟨.view, bys b⟩)] 2 (.bool (a == b)) [] 2 := by
  refine fun_any none cF cF_ok chk72 (show 2 ≤ 26 by decide) (by decide) ?_
  unfold sf72
  have hla := len_bytes a
  have hlb := len_bytes b
  by_cases hl : a.length = b.length
  · have e0 : ((a.length : Int) != (b.length : Int)) = false := by simp [hl]
    simp (config := { maxSteps := 1000000 }) only [e0, reduceCtorEq, Nat.reduceEqDiff, eq_self,  true_and, Nat.zero_add, frOf, den_o0, ↓gd_ft, den_o1, kont_app, den_skip, den_reg, den_seq, den_cond, den_block, ↓reduceIte, ↓e_mv, ↓e_bin, ↓e_len, ↓u_binV, ↓binI, Opd.ev, Sx.get, put, putO, del, dels]
    rw [den_loop]
    refine den_inv cF_ok (σ := Nat) (fun i => [(5, .int .i64 (i : Int)), (1, .slc 1 0 1 b.length cap'), (0, .slc 0 0 1 a.length cap)])
      (fun _ => [(0, ⟨.view, bys a⟩), (1, ⟨.view, bys b⟩)]) (fun _ => 2) (fun i => i ≤ a.length ∧ a.take i = b.take i) (fun i => a.length - i) 0 ⟨[(0, 0), (1, 0)], by simp [EntM, compat, apartM, keysBelow, eta, idHs, rd, Option.getD_some, List.length_cons, List.length_nil, Nat.zero_add, Nat.add_zero, Nat.reduceAdd, Nat.reduceLeDiff, ↓reduceIte, Kind.isOwn, List.take_succ_cons, List.nil_append, List.cons_append, List.take_nil, and_self, exists_eq_left', Option.some.injEq, List.drop_zero, ne_eq, not_false_eq_true, implies_true, List.not_mem_nil, Bool.false_or, List.mem_cons, or_false, forall_eq, ren_bytes, len_bytes, take_bytes], by simp [frEnt, geto, eta, SV.ren, Option.getD_some, List.length_cons, List.length_nil, Nat.zero_add, Nat.add_zero, Nat.reduceAdd, Nat.reduceEqDiff, Nat.reduceLeDiff, ↓reduceIte, and_self, reduceCtorEq]⟩ ⟨Nat.zero_le _, rfl⟩ ?_
    rintro i ⟨hi, he⟩
    by_cases h : i < a.length
    · have c1 : (i : Int) < (a.length : Int) := by omega
      have c1' : (i : Int) < (b.length : Int) := by omega
      have c2 : (0 : Int) ≤ (i : Int) := by omega
      have h' : i < b.length := by omega
      have wi : IntKind.i64.wrap ((i : Int) + 1) = ((i + 1 : Nat) : Int) := by rw [wrap64_eq (by omega) (by omega)]; omega
      obtain ⟨x, hx⟩ : ∃ x, a[i]? = some x := ⟨_, List.getElem?_eq_getElem h⟩
      obtain ⟨y, hy⟩ : ∃ y, b[i]? = some y := ⟨_, List.getElem?_eq_getElem h'⟩
      have gx := get_bysI hx
      have gy := get_bysI hy
      by_cases hxy : x = y
      · subst hxy
        have e1 : ((x.toNat : Int) != (x.toNat : Int)) = false := by simp
        simp (config := { maxSteps := 1000000 }) only [c1, c1', c2, h, h', wi, gx, gy, e1, again_n, reduceCtorEq, Nat.reduceEqDiff, eq_self, decide_true,  true_and, Nat.zero_add, den_nil, den_o0, ↓gd_tt, ↓gd_ft, den_o1, kont_app, den_skip, den_reg, den_regP, den_seq, den_cond, den_block, den_b, ↓reduceIte, ↓e_load, ↓e_idxS, ↓e_mv, ↓e_bin, ↓e_len, ↓u_binV, ↓binI, Opd.ev, Sx.get, put, putO, del, dels, rd, len_bytes, Int.toNat_natCast, Nat.mul_one]
        exact ⟨i + 1, ⟨[(0, 0), (1, 0)], by simp [EntM, compat, apartM, keysBelow, eta, idHs, rd, Option.getD_some, List.length_cons, List.length_nil, Nat.zero_add, Nat.add_zero, Nat.reduceAdd, Nat.reduceLeDiff, ↓reduceIte, Kind.isOwn, List.take_succ_cons, List.nil_append, List.cons_append, List.take_nil, and_self, exists_eq_left', Option.some.injEq, List.drop_zero, ne_eq, not_false_eq_true, implies_true, List.not_mem_nil, Bool.false_or, List.mem_cons, or_false, forall_eq, ren_bytes, len_bytes, take_bytes], by simp [frEnt, geto, eta, SV.ren, Option.getD_some, List.length_cons, List.length_nil, Nat.zero_add, Nat.add_zero, Nat.reduceAdd, Nat.reduceEqDiff, Nat.reduceLeDiff, ↓reduceIte, and_self, reduceCtorEq, Nat.succ_ne_self]⟩, ⟨by omega, by rw [List.take_add_one, List.take_add_one, he, hx, hy]⟩, by omega⟩
      · have e1 : ((x.toNat : Int) != (y.toNat : Int)) = true := by
          rw [bne_iff_ne]
          intro h
          exact hxy (UInt8.toNat_inj.1 (by omega))
        have hf : (a == b) = false := by
          rw [beq_eq_false_iff_ne]
          rintro rfl
          rw [hx] at hy
          exact hxy (Option.some.inj hy)
        simp (config := { maxSteps := 1000000 }) only [c1, c1', c2, h, h', gx, gy, e1, hf, again_r, reduceCtorEq, Nat.reduceEqDiff, eq_self, decide_true,  true_and, and_true, Nat.zero_add, den_nil, den_o0, ↓gd_tt, den_o1, kont_app, den_skip, den_reg, den_regP, den_seq, den_cond, den_block, den_ret, den_rb, den_rc, finE_r, ↓reduceIte, ↓e_load, ↓e_idxS, ↓e_mv, ↓e_bin, ↓e_len, ↓u_binV, ↓binI, ↓evRes, Opd.ev, Sx.get, put, putO, del, dels, rd, retOf, SV.ren, len_bytes, Int.toNat_natCast, Nat.mul_one]
        exact ⟨[(0, 0), (1, 0)], rfl, by simp [compat, apartM, keysBelow, idHs, List.take_succ_cons, List.nil_append, List.cons_append, List.take_nil, and_self]⟩
    · obtain rfl : i = a.length := by omega
      have c1 : ¬ (a.length : Int) < (a.length : Int) := by omega
      have hf : (a == b) = true := by
        rw [List.take_length, hl, List.take_length] at he
        rw [he]; simp
      simp (config := { maxSteps := 1000000 }) only [c1, hf, again_x, reduceCtorEq, Nat.reduceEqDiff, eq_self, decide_false,  true_and, and_true, den_nil, den_o0, ↓gd_ft, den_o1, kont_app, den_reg, den_seq, den_cond, den_exit, den_ret, den_xb, den_xc, finE_r, ↓reduceIte, ↓e_mv, ↓e_bin, ↓e_len, ↓u_binV, ↓binI, ↓evRes, Opd.ev, Sx.get, put, putO, del, dels, retOf, SV.ren]
      exact ⟨[(0, 0), (1, 0)], rfl, by simp [compat, apartM, keysBelow, idHs, List.take_succ_cons, List.nil_append, List.cons_append, List.take_nil, and_self]⟩
  · have e0 : ((a.length : Int) != (b.length : Int)) = true := by simp; omega
    have hf : (a == b) = false := by
      rw [beq_eq_false_iff_ne]
      rintro rfl
      exact hl rfl
    simp (config := { maxSteps := 1000000 }) only [e0, hf, reduceCtorEq, Nat.reduceEqDiff, eq_self,  true_and, and_true, Nat.zero_add, frOf, den_nil, den_o0, ↓gd_tt, den_o1, kont_app, den_reg, den_seq, den_cond, den_ret, den_rc, finE_r, ↓reduceIte, ↓e_mv, ↓e_bin, ↓e_len, ↓u_binV, ↓binI, ↓evRes, Opd.ev, Sx.get, put, putO, del, dels, retOf, SV.ren]
    exact ⟨[(0, 0), (1, 0)], rfl, by simp [compat, apartM, keysBelow, idHs, List.take_succ_cons, List.nil_append, List.cons_append, List.take_nil, and_self]⟩
theorem valB_app (a b : List UInt8) : valB a * 256 ^ b.length ≤ valB (a ++ b) := by
  have hf : ∀ (l : List UInt8) (a : Nat), a * 256 ^ l.length ≤ l.foldl (fun a c => a * 256 + c.toNat) a := by
    intro l
    induction l with
    | nil => intro a; simp
    | cons x l ih =>
      intro a
      have := ih (a * 256 + x.toNat)
      simp only [List.foldl_cons, List.length_cons, Nat.pow_succ]
      have h1 : a * (256 ^ l.length * 256) ≤ (a * 256 + x.toNat) * 256 ^ l.length := by
        rw [Nat.mul_comm (256 ^ l.length) 256, ← Nat.mul_assoc]; exact Nat.mul_le_mul_right _ (by omega)
      omega
  have := hf b (valB a)
  unfold valB at *
  rw [List.foldl_append]; exact this
def gSame : GS
  | [.slc 0 0 1 len _, .slc 1 0 1 len' _], [(0, ⟨.view, cells⟩), (1, ⟨.view, cells'⟩)] => match unB cells, unB cells' with
    | some a, some b => if len = a.length ∧ len' = b.length ∧ a.length ≤ 2 ^ 40 then some (.bool (a == b), [], 2) else none
    | _, _ => none
  | _, _ => none
theorem gSame_ok : FunS Tryd.prog tS 72 gSame := by
  intro a0 m0 r m1 n1 h
  unfold gSame at h
  split at h
  · split at h
    · rename_i a b ha hb
      split at h
      · rename_i hc
        obtain ⟨rfl, rfl, h1⟩ := hc
        cases h
        rw [unB_some ha, unB_some hb]
        exact ⟨f72 a b (by omega) _ _, by simp [freshB]⟩
      · cases h
    · cases h
  · cases h
def tabP : List (FuncId × GS) := [(38, gIntR), (72, gSame)]
theorem tabP_ok : ∀ x ∈ tabP, FunS Tryd.prog tS x.1 x.2 := by
  intro x hx
  simp only [tabP, List.mem_cons, List.not_mem_nil, or_false] at hx
  rcases hx with rfl | rfl
  · exact gIntR_ok
  · exact gSame_ok
set_option maxHeartbeats 8000000 in
theorem f50 (b : List UInt8) (hb : b.length ≤ 2 ^ 40) (cap : Option Nat) (hcap : CapOk cap b.length) :
    Fun Tryd.prog tS 50 [.slc 0 0 1 b.length cap] [(0, ⟨.view, bys b⟩)] 1 (tup3 (decS b)) [] 1 := by
  refine fun_any none (callS tabP cF) (callS_ok tabP_ok cF_ok) chk50 (show 1 ≤ 71 by decide) (by decide) ?_
  unfold sf50 tup3
  cases b with
  | nil =>
    have e0 : bys ([] : List UInt8) = [] := rfl
    simp (config := { maxSteps := 1000000 }) only [beq_self_eq_true, List.cons.injEq, SV.int.injEq, SV.tup.injEq, reduceCtorEq, Nat.reduceEqDiff, Int.reduceNeg, eq_self, Int.cast_ofNat_Int,  true_and, and_true, List.length_nil, frOf, den_nil, den_o0, ↓gd_tt, den_o1, kont_app, den_reg, den_seq, den_cond, den_ret, den_rc, finE_r, ↓reduceIte, ↓e_mv, ↓e_bin, ↓e_len, ↓u_binV, ↓binI, ↓evRes, Opd.ev, Sx.get, put, putO, del, dels, retOf, SV.ren, SV.renL, Int.cast_ofNat_Int]
    exact ⟨[(0, 0)], ⟨rfl, by simp [compat, apartM, keysBelow, idHs, List.take_succ_cons, List.nil_append, List.take_nil, and_self]⟩, rfl, rfl, rfl⟩
  | cons c r =>
    have hc := c.toNat_lt
    have g0 : (bys (c :: r))[0]? = some (.int .u8 (c.toNat : Int)) := get_bysI rfl
    have hl : (c :: r).length = r.length + 1 := rfl
    have hb0 : (((r.length + 1 : Nat) : Int) == 0) = false := by simp; omega
    have hl1 : (0 : Int) < ((r.length + 1 : Nat) : Int) := by omega
    have hbl := len_bytes (c :: r)
    rw [hl] at hbl hb hcap
    have wc : IntKind.i64.wrap (c.toNat : Int) = (c.toNat : Int) := wrap64_eq (by omega) (by omega)
    by_cases h119 : (c.toNat : Int) < 119
    · have hd : decS (c :: r) = (0, 0, 6) := by simp only [decS]; rw [if_pos]; unfold kOf; split <;> omega
      simp (config := { maxSteps := 1000000 }) only [hl, hb0, hl1, hbl, g0, wc, h119, hd, Nat.zero_lt_succ, undef, setv, reduceCtorEq, Nat.reduceEqDiff, Int.reduceToNat, Int.reduceLE, Int.reduceNeg, eq_self, decide_true, Int.cast_ofNat_Int,  true_and, and_true, Nat.add_zero, frOf, den_nil, den_o0, ↓gd_tt, ↓gd_tf, ↓gd_ft, den_o1, kont_app, den_g, setv, Bool.not_false, den_skip, den_reg, Bool.not_false, den_seq, den_cond, den_ret, den_rc, finE_r, ↓reduceIte, ↓e_load, ↓e_idxS, ↓e_mv, ↓e_pick, ↓e_bin, ↓e_conv, ↓e_len, ↓u_binV, ↓binI, ↓evRes, Opd.ev, Sx.get, put, putO, del, dels, rd, retOf, SV.ren, SV.renL, Nat.mul_one, Int.cast_ofNat_Int]
      exact ⟨[(0, 0)], rfl, by simp [compat, apartM, keysBelow, idHs, List.take_succ_cons, List.nil_append, List.take_nil, and_self]⟩
    by_cases h136 : (c.toNat : Int) > 136
    · have hd : decS (c :: r) = (0, 0, 6) := by simp only [decS]; rw [if_pos]; unfold kOf; split <;> omega
      simp (config := { maxSteps := 1000000 }) only [hl, hb0, hl1, hbl, g0, wc, h119, h136, hd, Nat.zero_lt_succ, setv, reduceCtorEq, Nat.reduceEqDiff, Int.reduceToNat, Int.reduceLE, Int.reduceNeg, eq_self, decide_true, decide_false, Int.cast_ofNat_Int,  true_and, and_true, Nat.add_zero, frOf, den_nil, den_o0, ↓gd_tt, ↓gd_ff, ↓gd_ft, den_o1, kont_app, den_g, setv, den_skip, den_reg, den_seq, den_cond, den_ret, den_rc, finE_r, ↓reduceIte, ↓e_load, ↓e_idxS, ↓e_mv, ↓e_pick, ↓e_bin, ↓e_conv, ↓e_len, ↓u_binV, ↓binI, ↓evRes, Opd.ev, Sx.get, put, putO, del, dels, rd, retOf, SV.ren, SV.renL, Nat.mul_one, Int.cast_ofNat_Int]
      exact ⟨[(0, 0)], rfl, by simp [compat, apartM, keysBelow, idHs, List.take_succ_cons, List.nil_append, List.take_nil, and_self]⟩
    have h8 : kOf c.toNat ≤ 8 := by unfold kOf; split <;> omega
    have key : (((c.toNat : Int) < 128) ∧ IntKind.i64.wrap (127 - (c.toNat : Int)) = (kOf c.toNat : Int) ∧ c.toNat < 128) ∨ (¬ ((c.toNat : Int) < 128) ∧ IntKind.i64.wrap ((c.toNat : Int) - 128) = (kOf c.toNat : Int) ∧ ¬ c.toNat < 128) := by
      unfold kOf
      by_cases hh : c.toNat < 128
      · left; rw [if_pos hh]; exact ⟨by omega, by rw [wrap64_eq (by omega) (by omega)]; omega, hh⟩
      · right; rw [if_neg hh]; exact ⟨by omega, by rw [wrap64_eq (by omega) (by omega)]; omega, hh⟩
    have wK : IntKind.i64.wrap ((kOf c.toNat : Int) + 1) = ((kOf c.toNat + 1 : Nat) : Int) := by rw [wrap64_eq (by omega) (by omega)]; omega
    have wx : IntKind.i64.wrap ((c.toNat : Int) - 128) = (c.toNat : Int) - 128 := wrap64_eq (by omega) (by omega)
    rcases key with ⟨k1, k2, k3⟩ | ⟨k1, k2, k3⟩
    all_goals
      by_cases hr : r.length < kOf c.toNat
      · have hr' : ((r.length + 1 : Nat) : Int) < ((kOf c.toNat + 1 : Nat) : Int) := by omega
        have hd : decS (c :: r) = (0, 0, 5) := by simp only [decS]; rw [if_neg (by omega), if_pos hr]
        simp (config := { maxSteps := 1000000 }) only [hl, hb0, hl1, hbl, g0, wc, h119, h136, k1, k2, wK, hr', hd, Nat.zero_lt_succ, setv, reduceCtorEq, Nat.reduceEqDiff, Int.reduceToNat, Int.reduceLE, Int.reduceNeg, eq_self, decide_true, decide_false, Int.cast_ofNat_Int,  true_and, and_true, Nat.add_zero, frOf, den_nil, den_o0, ↓gd_tt, ↓gd_ff, ↓gd_ft, den_o1, kont_app, den_g, setv, den_skip, den_reg, den_seq, den_cond, den_ret, den_rc, finE_r, ↓reduceIte, ↓e_load, ↓e_idxS, ↓e_mv, ↓e_pick, ↓e_bin, ↓e_conv, ↓e_len, ↓u_binV, ↓binI, ↓evRes, Opd.ev, Sx.get, put, putO, del, dels, rd, retOf, SV.ren, SV.renL, Nat.mul_one, Int.cast_ofNat_Int]
        exact ⟨[(0, 0)], rfl, by simp [compat, apartM, keysBelow, idHs, List.take_succ_cons, List.nil_append, List.take_nil, and_self]⟩
      have hr' : ¬ ((r.length + 1 : Nat) : Int) < ((kOf c.toNat + 1 : Nat) : Int) := by omega
      simp (config := { maxSteps := 1000000 }) only [hl, hb0, hl1, hbl, g0, wc, h119, h136, k1, k2, wK, hr', Nat.zero_lt_succ, setv, reduceCtorEq, Nat.reduceEqDiff, Int.reduceToNat, Int.reduceLE, Int.reduceNeg, eq_self, decide_true, decide_false,  true_and, Nat.add_zero, frOf, den_o0, ↓gd_tt, ↓gd_ff, ↓gd_ft, den_o1, kont_app, den_g, setv, den_skip, den_reg, den_seq, den_cond, den_block, ↓reduceIte, ↓e_load, ↓e_idxS, ↓e_mv, ↓e_pick, ↓e_bin, ↓e_conv, ↓e_len, ↓u_binV, ↓binI, Opd.ev, Sx.get, put, putO, del, dels, rd, Nat.mul_one]
      rw [den_loop]
      have hk8 := h8
      generalize hK : kOf c.toNat = K at *
      generalize hD : (r.take K).map (flU c.toNat) = D at *
      have hDl : D.length = K := by rw [← hD]; simp; omega
      have hdec : decS (c :: r) = if D.head? = some 0 then (0, 0, 6) else if valB D ≥ 9223372036854775808 then (0, 0, 6) else (numS c D, K + 1, 0) := by
        simp only [decS, hK, hD]
        rw [if_neg (by omega), if_neg hr]; rfl
      refine den_inv (callS_ok tabP_ok cF_ok) (σ := Nat) (fun i => [(8, .int .i64 ((i + 1 : Nat) : Int)), (7, .int .i64 (valB (D.take i) : Int)), (6, .int .i64 (K : Int)), (5, .int .i64 (c.toNat : Int)), (0, .slc 0 0 1 (r.length + 1) cap)])
        (fun _ => [(0, ⟨.view, bys (c :: r)⟩)]) (fun _ => 1) (fun i => i ≤ K ∧ valB (D.take i) < 9223372036854775808) (fun i => K - i) 0 ⟨[(0, 0)], by simp [EntM, compat, apartM, keysBelow, eta, idHs, rd, Option.getD_some, List.length_cons, List.length_nil, Nat.zero_add, Nat.add_zero, ↓reduceIte, Kind.isOwn, List.take_succ_cons, List.nil_append, List.take_nil, and_self, exists_eq_left', Option.some.injEq, List.drop_zero, ne_eq, implies_true, List.not_mem_nil, Bool.false_or, ren_bytes, len_bytes, take_bys1], by simp [valB, frEnt, geto, eta, SV.ren, Option.getD_some, List.length_cons, List.length_nil, Nat.zero_add, Nat.add_zero, Nat.reduceEqDiff, ↓reduceIte, List.take_zero, and_self, reduceCtorEq, Nat.succ_ne_self]⟩ ⟨Nat.zero_le _, by simp [valB]⟩ ?_
      rintro i ⟨hi, hlt⟩
      by_cases hiK : i < K
      · have d1 : ((i + 1 : Nat) : Int) ≤ (K : Int) := by omega
        have d2 : (0 : Int) ≤ ((i + 1 : Nat) : Int) := by omega
        have d3 : ((i + 1 : Nat) : Int) < ((r.length + 1 : Nat) : Int) := by omega
        have wi : IntKind.i64.wrap (((i + 1 : Nat) : Int) + 1) = ((i + 1 + 1 : Nat) : Int) := by rw [wrap64_eq (by omega) (by omega)]; omega
        obtain ⟨y, hy⟩ : ∃ y, r[i]? = some y := ⟨_, List.getElem?_eq_getElem (by omega)⟩
        have hyl := y.toNat_lt
        have gy : (bys (c :: r))[i + 1]? = some (.int .u8 (y.toNat : Int)) := get_bysI (by rw [List.getElem?_cons_succ]; exact hy)
        have wy : IntKind.i64.wrap (y.toNat : Int) = (y.toNat : Int) := wrap64_eq (by omega) (by omega)
        have wy2 : IntKind.i64.wrap (255 - (y.toNat : Int)) = 255 - (y.toNat : Int) := wrap64_eq (by omega) (by omega)
        have hDi : D[i]? = some (flU c.toNat y) := by
          rw [← hD, List.getElem?_map, List.getElem?_take_of_lt hiK, hy]; rfl
        have hv : valB (D.take (i + 1)) = valB (D.take i) * 256 + (flU c.toNat y).toNat := by
          rw [List.take_add_one, hDi]; exact valB_snoc _ _
        have hfv : (flU c.toNat y).toNat = if c.toNat < 128 then 255 - y.toNat else y.toNat := by
          unfold flU
          by_cases hh : c.toNat < 128
          · rw [if_pos hh, if_pos hh, UInt8.toNat_ofNat']; omega
          · rw [if_neg hh, if_neg hh]
        have q1 : i + 1 < r.length + 1 := by omega
        by_cases hbig : (valB (D.take i) : Int) > 36028797018963967
        · have hd : decS (c :: r) = (0, 0, 6) := by
            have hge : valB D ≥ 9223372036854775808 := by
              have h1 := valB_app (D.take i) (D.drop i)
              rw [List.take_append_drop] at h1
              have h2 : 256 ^ 1 ≤ 256 ^ (D.drop i).length := Nat.pow_le_pow_right (by decide) (by simp; omega)
              have h3 : 36028797018963968 * 256 ^ 1 ≤ valB (D.take i) * 256 ^ (D.drop i).length := Nat.mul_le_mul (by omega) h2
              omega
            rw [hdec]
            by_cases hz : D.head? = some 0
            · rw [if_pos hz]
            · rw [if_neg hz, if_pos hge]
          simp (config := { maxSteps := 1000000 }) only [hbl, gy, d1, d2, d3, q1, wy, wy2, k1, hbig, hd, again_r, reduceCtorEq, Nat.reduceEqDiff, Int.reduceNeg, eq_self, decide_true, decide_false, Int.cast_ofNat_Int,  true_and, and_true, Nat.zero_add, den_nil, den_o0, ↓gd_tt, ↓gd_ft, den_o1, kont_app, den_skip, den_reg, den_seq, den_cond, den_block, den_ret, den_rb, den_rc, finE_r, ↓reduceIte, ↓e_load, ↓e_idxS, ↓e_mv, ↓e_bin, ↓e_conv, ↓u_binV, ↓binI, ↓evRes, Opd.ev, Sx.get, put, putO, del, dels, rd, retOf, SV.ren, SV.renL, Int.toNat_natCast, Nat.mul_one, Int.cast_ofNat_Int]
          exact ⟨[(0, 0)], rfl, by simp [compat, apartM, keysBelow, idHs, List.take_succ_cons, List.nil_append, List.take_nil, and_self]⟩
        · have w1 : IntKind.i64.wrap (256 * (valB (D.take i) : Int)) = 256 * (valB (D.take i) : Int) := wrap64_eq (by omega) (by omega)
          have w2 : IntKind.i64.wrap (256 * (valB (D.take i) : Int) + (255 - (y.toNat : Int))) = 256 * (valB (D.take i) : Int) + (255 - (y.toNat : Int)) := wrap64_eq (by omega) (by omega)
          have w3 : IntKind.i64.wrap (256 * (valB (D.take i) : Int) + (y.toNat : Int)) = 256 * (valB (D.take i) : Int) + (y.toNat : Int) := wrap64_eq (by omega) (by omega)
          simp (config := { maxSteps := 1000000 }) only [hbl, gy, d1, d2, d3, q1, wi, wy, wy2, k1, hbig, w1, w2, w3, again_n, reduceCtorEq, Nat.reduceEqDiff, Int.reduceNeg, eq_self, decide_true, decide_false,  true_and, Nat.zero_add, den_nil, den_o0, ↓gd_tt, ↓gd_ft, den_o1, kont_app, den_skip, den_reg, den_seq, den_cond, den_block, den_b, ↓reduceIte, ↓e_load, ↓e_idxS, ↓e_mv, ↓e_bin, ↓e_conv, ↓u_binV, ↓binI, Opd.ev, Sx.get, put, putO, del, dels, rd, Int.toNat_natCast, Nat.mul_one]
          have hv2 : (valB (D.take (i + 1)) : Int) = 256 * (valB (D.take i) : Int) + ((flU c.toNat y).toNat : Int) := by rw [hv]; omega
          refine ⟨i + 1, ⟨[(0, 0)], by simp [EntM, compat, apartM, keysBelow, eta, idHs, rd, Option.getD_some, List.length_cons, List.length_nil, Nat.zero_add, Nat.add_zero, ↓reduceIte, Kind.isOwn, List.take_succ_cons, List.nil_append, List.take_nil, and_self, exists_eq_left', Option.some.injEq, List.drop_zero, ne_eq, implies_true, List.not_mem_nil, Bool.false_or, ren_bytes, len_bytes, take_bys1], ?_⟩, ⟨by omega, ?_⟩, by omega⟩
          · rw [hv2, hfv]
            simp only [k3, frEnt, geto, eta, SV.ren, Option.getD_some, List.getElem?_cons_zero, List.length_cons, List.length_nil, Nat.zero_add, Nat.add_zero, Nat.reduceSub, Nat.reduceEqDiff, ↓reduceIte, and_self, and_true, true_and, Option.some.injEq, reduceCtorEq, Nat.succ_ne_self]
            try (congr 2; omega)
          · rw [hv, hfv]
            split <;> omega
      · obtain rfl : i = K := by omega
        rw [show D.take i = D from List.take_of_length_le (by omega)] at hlt ⊢
        have d1 : ¬ ((i + 1 : Nat) : Int) ≤ (i : Int) := by omega
        obtain ⟨hn, hm, hs⟩ := numS_facts (c := c) hlt
        have hnum : numS c D = if c.toNat < 128 then -1 - (valB D : Int) else (valB D : Int) := rfl
        have wn : IntKind.i64.wrap (-1 - (valB D : Int)) = -1 - (valB D : Int) := wrap64_eq (by omega) (by omega)
        have tk : List.take (i + 1) (bys (c :: r)) = bys (c :: r.take i) := by
          simp only [bys, List.map_cons, List.take_succ_cons, List.map_take]
        have ltk : (c :: r.take i).length = i + 1 := by simp; omega
        have hb40 : (encR (numS c D)).length ≤ 2 ^ 40 := by have := encR_len (numS c D); omega
        have hfl := flat_bytes (c :: r.take i)
        have hsm : (encR (numS c D) == c :: r.take i) = !(decide (D.head? = some 0)) := by
          rw [← enc_same hn]
          by_cases hz : D.head? = some 0
          · have := enc_of_zero (c := c) hz hlt
            rw [hDl] at this
            rw [decide_eq_true hz, Bool.not_true, beq_eq_false_iff_ne]
            intro h
            rw [h, ltk] at this
            exact this rfl
          · have := enc_of_dec (c := c) (r := r) (by omega) (by omega) (by rw [hK, hD]; exact hz) (by rw [hK, hD]; exact hlt)
            rw [hK, hD] at this
            rw [decide_eq_false hz, this]; simp
        have hdec2 : decS (c :: r) = if D.head? = some 0 then (0, 0, 6) else (numS c D, i + 1, 0) := by
          rw [hdec]
          by_cases hz : D.head? = some 0
          · rw [if_pos hz, if_pos hz]
          · rw [if_neg hz, if_neg hz, if_neg (by omega)]
        simp only [hnum, k3, if_true, if_false] at hsm hb40 hdec2
        have kk : (0 : Int) ≤ ((i + 1 : Nat) : Int) := by omega
        have kk2 : ((i + 1 : Nat) : Int) ≤ ((r.length + 1 : Nat) : Int) := by omega
        have kk3 : i + 1 ≤ r.length + 1 := by omega
        simp (config := { maxSteps := 1000000 }) only [tabP, gIntR, gSame, hbl, d1, k1, wn, wK, tk, ltk, unB_bytes, hb40, hfl, hsm, kk, kk2, kk3, List.cons.injEq, SV.int.injEq, SV.tup.injEq, and_self, lookF, again_x, reduceCtorEq, Nat.reduceEqDiff, Nat.reduceAdd, Nat.reduceSub, Nat.reduceLeDiff, Nat.reduceLT, Int.reduceToNat, Int.reduceLE, Int.reduceNeg, false_imp_iff, eq_self, decide_true, decide_false,  true_and, and_true, and_false, List.getElem?_cons_zero, List.getElem?_cons_succ, List.length_cons, List.length_nil, List.append_nil, List.nil_append, List.cons_append, List.take_succ_cons, List.take_zero, List.drop_succ_cons, List.drop_zero, List.reverse_cons, List.reverse_nil, List.map_cons, List.map_nil, Nat.zero_add, Nat.add_zero, den_nil, den_o0, ↓gd_tt, ↓gd_ft, gd_any, den_o1, kont_app, Bool.not_true, den_skip, den_reg, den_regD, den_A, Bool.not_true, Bool.or_self, den_seq, den_cond, den_exit, den_ret, den_xb, den_xc, den_rc, finE_r, ↓reduceIte, ↓e_slcS, ↓e_mv, ↓e_bin, ↓e_un, ↓e_call, ↓u_onOpt0, ↓u_onOpt1, ↓u_binV, ↓binI, ↓binS, ↓evRes, evA, Opd.ev, Sx.get, put, putO, del, dels, frD, memD, pickD, kills, views, newer, rd, retOf, ↓u_callS, canLW, canV, canC, belowL, apH, apH1, eta, SV.ren, SV.renL, newOwn, targets, rms, Kind.isOwn, ren_bytes, List.getElem?_nil, Option.getD_none, Nat.sub_zero, Nat.le_refl, take_bytes, len_bytes, flat_bytes, Int.toNat_natCast, Nat.mul_one]
        refine ⟨by cases cap with
          | none => trivial
          | some q => exact hcap q rfl, ?_, ?_⟩
        · intro h
          rw [Bool.not_not] at h
          rw [hdec2, if_pos (of_decide_eq_true h)]
          exact ⟨[(0, 0)], ⟨rfl, by simp [compat, apartM, keysBelow, idHs, List.take_succ_cons, List.nil_append, List.take_nil, and_self]⟩, rfl, rfl, rfl⟩
        · intro h
          rw [Bool.not_not] at h
          rw [hdec2, if_neg (of_decide_eq_false h)]
          exact ⟨[(0, 0)], ⟨rfl, by simp [compat, apartM, keysBelow, idHs, List.take_succ_cons, List.nil_append, List.take_nil, and_self]⟩, rfl, rfl, rfl⟩
def gGetIntR : GS
  | [.slc 0 0 1 len cap], [(0, ⟨.view, cells⟩)] => match unB cells with
    | some b => if len = b.length ∧ b.length ≤ 2 ^ 40 then (match capB cap b.length with
      | true => some (tup3 (decS b), [], 1)
      | false => none) else none
    | none => none
  | _, _ => none
theorem gGetIntR_ok : FunS Tryd.prog tS 50 gGetIntR := by
  intro a0 m0 r m1 n1 h
  unfold gGetIntR at h
  split at h
  · split at h
    · rename_i b hb
      split at h
      · rename_i hc
        split at h
        · rename_i hcap
          cases h
          obtain ⟨rfl, h1⟩ := hc
          rw [unB_some hb]
          exact ⟨f50 b h1 _ (capB_ok hcap), by simp [freshB]⟩
        · cases h
      · cases h
    · cases h
  · cases h
end Go.Proofs.YtkfbkooobfepeaaDoor

/- Package wire and the reference: the reading of counts and of texts. -/
namespace Go.Proofs.YtkfbkooobfepeaaDoor
open Go Go.Sx Sf
set_option maxRecDepth 100000
set_option linter.unusedVariables false
variable {tS : List (Nat × List SV)}
theorem dec_err {b : List UInt8} {n : Int} {u : Nat} {e : Int} (h : decS b = (n, u, e)) : (e = 0 ∧ R64 n ∧ u ≤ b.length ∧ 0 < u) ∨ (e ≠ 0 ∧ n = 0 ∧ u = 0) := by
  by_cases he : e = 0
  · subst he
    obtain ⟨h1, h2, h3⟩ := enc_dec h
    refine .inl ⟨rfl, h1, h2, ?_⟩
    have := congrArg List.length h3
    simp only [encI, List.length_cons, List.length_take] at this
    omega
  · refine .inr ⟨he, ?_⟩
    unfold decS at h
    split at h
    · simp at h; exact ⟨h.1.symm, h.2.1.symm⟩
    · split at h
      · simp at h; exact ⟨h.1.symm, h.2.1.symm⟩
      · split at h
        · simp at h; exact ⟨h.1.symm, h.2.1.symm⟩
        · split at h
          · simp at h; exact ⟨h.1.symm, h.2.1.symm⟩
          · split at h
            · simp at h; exact ⟨h.1.symm, h.2.1.symm⟩
            · simp only [Prod.mk.injEq] at h
              exact absurd h.2.2.symm he
def tabQ : List (FuncId × GS) := [(59, gGetInt), (50, gGetIntR)]
theorem tabQ_ok : ∀ x ∈ tabQ, FunS Tryd.prog tS x.1 x.2 := by
  intro x hx
  simp only [tabQ, List.mem_cons, List.not_mem_nil, or_false] at hx
  rcases hx with rfl | rfl
  · exact gGetInt_ok
  · exact gGetIntR_ok
def cntE (b : List UInt8) (s : Nat) : Int := if (decS b).2.2 ≠ 0 then (decS b).2.2 else if (decS b).1 < 0 then 6 else if (decS b).1 > (((b.length - (decS b).2.1) / s : Nat) : Int) then 5 else 0
def cntP (b : List UInt8) (s : Nat) : Int × Nat × Int := ((decS b).1, (decS b).2.1, cntE b s)
def cntR (b : List UInt8) (s : Nat) : Int × Nat × Int := if cntE b s ≠ 0 then (0, 0, cntE b s) else ((decS b).1, (decS b).2.1, 0)
theorem f69 (b : List UInt8) (s : Nat) (hs : 1 ≤ s) (hs2 : s ≤ 1000) (hb : b.length ≤ 2 ^ 40) :
    Fun Tryd.prog tS 69 [.slc 0 0 1 b.length none, .int .i64 (s : Int)] [(0, ⟨.view, bys b⟩)] 1 (tup3 (cntP b s)) [] 1 := by
  refine fun_any none (callS tabQ cF) (callS_ok tabQ_ok cF_ok) chk69 (show 2 ≤ 31 by decide) (by decide) ?_
  unfold sf69 tup3 cntP cntE
  have fl := flat_bytes b
  rcases hx : decS b with ⟨n, u, e⟩
  simp only
  rcases dec_err hx with ⟨rfl, h1, h2, h3⟩ | ⟨he, rfl, rfl⟩
  · have w1 : IntKind.i64.wrap ((b.length : Int) - (u : Int)) = ((b.length - u : Nat) : Int) := by rw [wrap64_eq (by omega) (by omega)]; omega
    have w2 : IntKind.i64.wrap (((b.length - u : Nat) : Int).tdiv (s : Int)) = (((b.length - u) / s : Nat) : Int) := by
      have e1 : ((b.length - u : Nat) : Int).tdiv (s : Int) = (((b.length - u) / s : Nat) : Int) := (Int.ofNat_tdiv _ _).symm
      have := Nat.div_le_self (b.length - u) s
      rw [e1]
      generalize (b.length - u) / s = q at *
      exact wrap64_eq (by omega) (by omega)
    have s0 : (s : Int) ≠ 0 := by omega
    by_cases hn : n < 0
    · simp (config := { maxSteps := 1000000 }) only [tabQ, gGetInt, unB_bytes, hb, fl, capB, hx, tup3, hn, and_self, Int.reduceBNe, lookF, reduceCtorEq, Nat.reduceEqDiff, Nat.reduceSub, Nat.reduceLT, Int.reduceNe, eq_self, decide_true,  true_and, and_true, List.getElem?_cons_zero, List.getElem?_cons_succ, List.length_cons, List.length_nil, List.append_nil, List.nil_append, List.drop_zero, List.map_cons, List.map_nil, Nat.zero_add, Nat.add_zero, frOf, den_nil, den_o0, ↓gd_tt, ↓gd_ft, den_o1, kont_app, den_reg, den_seq, den_cond, den_block, den_ret, den_b, finE_r, ↓reduceIte, ↓e_ext, ↓e_mv, ↓e_bin, ↓e_call, ↓u_binV, ↓binI, ↓evRes, Opd.ev, Sx.get, put, putO, del, dels, rd, retOf, ↓u_callS, canLW, canV, canC, belowL, apH, apH1, SV.ren, SV.renL, newOwn, targets, rms, Kind.isOwn, Nat.le_refl, take_bytes, len_bytes, Nat.mul_one]
      exact ⟨[(0, 0)], rfl, by simp [compat, apartM, keysBelow, idHs, List.take_succ_cons, List.nil_append, List.take_nil, and_self]⟩
    · by_cases hq : n > (((b.length - u) / s : Nat) : Int)
      · simp (config := { maxSteps := 1000000 }) only [tabQ, gGetInt, unB_bytes, hb, fl, capB, hx, tup3, hn, hq, w1, w2, and_self, Int.reduceBNe, lookF, reduceCtorEq, Nat.reduceEqDiff, Nat.reduceSub, Nat.reduceLT, Int.reduceNe, eq_self, decide_true, decide_false,  true_and, and_true, List.getElem?_cons_zero, List.getElem?_cons_succ, List.length_cons, List.length_nil, List.append_nil, List.nil_append, List.drop_zero, List.map_cons, List.map_nil, Nat.zero_add, Nat.add_zero, frOf, den_nil, den_o0, ↓gd_tt, ↓gd_ft, den_o1, kont_app, den_reg, den_seq, den_cond, den_block, den_ret, den_b, finE_r, ↓reduceIte, ↓e_ext, ↓e_mv, ↓e_bin, ↓e_call, ↓e_len, ↓u_binV, ↓binI, ↓evRes, Opd.ev, Sx.get, put, putO, del, dels, rd, retOf, ↓u_callS, canLW, canV, canC, belowL, apH, apH1, SV.ren, SV.renL, newOwn, targets, rms, Kind.isOwn, Nat.le_refl, take_bytes, len_bytes, Nat.mul_one]
        exact ⟨s0, [(0, 0)], rfl, by simp [compat, apartM, keysBelow, idHs, List.take_succ_cons, List.nil_append, List.take_nil, and_self]⟩
      · simp (config := { maxSteps := 1000000 }) only [tabQ, gGetInt, unB_bytes, hb, fl, capB, hx, tup3, hn, hq, w1, w2, and_self, Int.reduceBNe, lookF, reduceCtorEq, Nat.reduceEqDiff, Nat.reduceSub, Nat.reduceLT, Int.reduceNe, eq_self, decide_false,  true_and, and_true, List.getElem?_cons_zero, List.getElem?_cons_succ, List.length_cons, List.length_nil, List.append_nil, List.nil_append, List.drop_zero, List.map_cons, List.map_nil, Nat.zero_add, Nat.add_zero, frOf, den_nil, den_o0, ↓gd_ft, den_o1, kont_app, den_skip, den_reg, den_seq, den_cond, den_block, den_ret, den_b, finE_r, ↓reduceIte, ↓e_ext, ↓e_mv, ↓e_bin, ↓e_call, ↓e_len, ↓u_binV, ↓binI, ↓evRes, Opd.ev, Sx.get, put, putO, del, dels, rd, retOf, ↓u_callS, canLW, canV, canC, belowL, apH, apH1, SV.ren, SV.renL, newOwn, targets, rms, Kind.isOwn, Nat.le_refl, take_bytes, len_bytes, Nat.mul_one]
        exact ⟨s0, [(0, 0)], rfl, by simp [compat, apartM, keysBelow, idHs, List.take_succ_cons, List.nil_append, List.take_nil, and_self]⟩
  · have he' : (e != 0) = true := by simpa using he
    simp (config := { maxSteps := 1000000 }) only [tabQ, gGetInt, unB_bytes, hb, fl, capB, hx, tup3, he', List.cons.injEq, SV.int.injEq, SV.tup.injEq, and_self, lookF, reduceCtorEq, Nat.reduceEqDiff, Nat.reduceSub, Nat.reduceLT, Int.reduceLT, eq_self, Int.cast_ofNat_Int,  true_and, and_true, List.getElem?_cons_zero, List.getElem?_cons_succ, List.length_cons, List.length_nil, List.append_nil, List.nil_append, List.drop_zero, List.map_cons, List.map_nil, Nat.zero_add, Nat.add_zero, frOf, den_nil, den_o0, ↓gd_tt, den_o1, kont_app, den_skip, den_reg, den_seq, den_cond, den_block, den_ret, den_b, finE_r, ↓reduceIte, ↓e_ext, ↓e_mv, ↓e_bin, ↓e_call, ↓u_binV, ↓binI, ↓evRes, Opd.ev, Sx.get, put, putO, del, dels, rd, retOf, ↓u_callS, canLW, canV, canC, belowL, apH, apH1, SV.ren, SV.renL, newOwn, targets, rms, Kind.isOwn, Nat.sub_zero, Nat.le_refl, take_bytes, len_bytes, Nat.mul_one, Int.cast_ofNat_Int]
    exact ⟨[(0, 0)], ⟨rfl, by simp [compat, apartM, keysBelow, idHs, List.take_succ_cons, List.nil_append, List.take_nil, and_self]⟩, by rw [if_pos he]⟩
theorem f71 (b : List UInt8) (s : Nat) (hs : 1 ≤ s) (hs2 : s ≤ 1000) (hb : b.length ≤ 2 ^ 40) :
    Fun Tryd.prog tS 71 [.slc 0 0 1 b.length none, .int .i64 (s : Int)] [(0, ⟨.view, bys b⟩)] 1 (tup3 (cntR b s)) [] 1 := by
  refine fun_any none (callS tabQ cF) (callS_ok tabQ_ok cF_ok) chk71 (show 2 ≤ 37 by decide) (by decide) ?_
  unfold sf71 tup3 cntR cntE
  have fl := flat_bytes b
  rcases hx : decS b with ⟨n, u, e⟩
  simp only
  rcases dec_err hx with ⟨rfl, h1, h2, h3⟩ | ⟨he, rfl, rfl⟩
  · have w1 : IntKind.i64.wrap ((b.length : Int) - (u : Int)) = ((b.length - u : Nat) : Int) := by rw [wrap64_eq (by omega) (by omega)]; omega
    by_cases hn : n < 0
    · simp (config := { maxSteps := 1000000 }) only [tabQ, gGetIntR, unB_bytes, hb, fl, capB, hx, tup3, hn, ne_eq, not_true_eq_false, Int.reduceEq, and_self, Int.reduceBNe, lookF, reduceCtorEq, Nat.reduceEqDiff, Nat.reduceSub, Nat.reduceLT, Int.reduceEq, eq_self, decide_true, Int.cast_ofNat_Int,  true_and, and_true, List.getElem?_cons_zero, List.getElem?_cons_succ, List.length_cons, List.length_nil, List.append_nil, List.nil_append, List.drop_zero, List.map_cons, List.map_nil, Nat.zero_add, Nat.add_zero, frOf, den_nil, den_o0, ↓gd_tt, ↓gd_ft, den_o1, kont_app, den_skip, den_reg, den_seq, den_cond, den_ret, den_rc, finE_r, ↓reduceIte, ↓e_ext, ↓e_mv, ↓e_bin, ↓e_call, ↓u_binV, ↓binI, ↓evRes, Opd.ev, Sx.get, put, putO, del, dels, rd, retOf, ↓u_callS, canLW, canV, canC, belowL, apH, apH1, SV.ren, SV.renL, newOwn, targets, rms, Kind.isOwn, not_true_eq_false, not_false_eq_true, Nat.le_refl, take_bytes, len_bytes, Nat.mul_one, Int.cast_ofNat_Int]
      exact ⟨[(0, 0)], rfl, by simp [compat, apartM, keysBelow, idHs, List.take_succ_cons, List.nil_append, List.take_nil, and_self]⟩
    · have hle := Nat.div_le_self (b.length - u) s
      have hdm : n ≤ (b.length : Int) → ((n * (s : Int) > ((b.length - u : Nat) : Int)) ↔ n > (((b.length - u) / s : Nat) : Int)) := by
        intro hnl
        obtain ⟨k, rfl⟩ : ∃ k : Nat, n = (k : Int) := ⟨n.toNat, by omega⟩
        have hk := Nat.div_lt_iff_lt_mul (x := b.length - u) (y := k) (k := s) (by omega)
        constructor
        · intro h
          have : (k * s : Nat) > b.length - u := by exact_mod_cast h
          have := hk.2 (by omega)
          omega
        · intro h
          have := hk.1 (by omega)
          have : (k * s : Nat) > b.length - u := by omega
          exact_mod_cast this
      by_cases hl : n > (b.length : Int)
      · have hq : n > (((b.length - u) / s : Nat) : Int) := by omega
        simp (config := { maxSteps := 1000000 }) only [tabQ, gGetIntR, unB_bytes, hb, fl, capB, hx, tup3, hn, hl, hq, ne_eq, not_true_eq_false, Int.reduceEq, and_self, undef, Int.reduceBNe, lookF, setv, reduceCtorEq, Nat.reduceEqDiff, Nat.reduceSub, Nat.reduceLT, Int.reduceEq, eq_self, decide_true, decide_false, Int.cast_ofNat_Int,  true_and, and_true, List.getElem?_cons_zero, List.getElem?_cons_succ, List.length_cons, List.length_nil, List.append_nil, List.nil_append, List.drop_zero, List.map_cons, List.map_nil, Nat.zero_add, Nat.add_zero, frOf, den_nil, den_o0, ↓gd_tt, ↓gd_tf, ↓gd_ft, den_o1, kont_app, den_g, setv, Bool.not_false, den_skip, den_reg, Bool.not_false, den_seq, den_cond, den_ret, den_rc, finE_r, ↓reduceIte, ↓e_ext, ↓e_mv, ↓e_pick, ↓e_bin, ↓e_call, ↓e_len, ↓u_binV, ↓binI, ↓evRes, Opd.ev, Sx.get, put, putO, del, dels, rd, retOf, ↓u_callS, canLW, canV, canC, belowL, apH, apH1, SV.ren, SV.renL, newOwn, targets, rms, Kind.isOwn, not_true_eq_false, not_false_eq_true, Nat.le_refl, take_bytes, len_bytes, Nat.mul_one, Int.cast_ofNat_Int]
        exact ⟨[(0, 0)], rfl, by simp [compat, apartM, keysBelow, idHs, List.take_succ_cons, List.nil_append, List.take_nil, and_self]⟩
      · have w2 : IntKind.i64.wrap (n * (s : Int)) = n * (s : Int) := by
          have h1 : 0 ≤ n * (s : Int) := Int.mul_nonneg (by omega) (by omega)
          have h2 : n * (s : Int) ≤ 1099511627776 * 1000 := Int.mul_le_mul (by omega) (by omega) (by omega) (by omega)
          exact wrap64_eq (by omega) (by omega)
        have hd := hdm (by omega)
        by_cases hq : n > (((b.length - u) / s : Nat) : Int)
        · have hq2 := hd.2 hq
          simp (config := { maxSteps := 1000000 }) only [tabQ, gGetIntR, unB_bytes, hb, fl, capB, hx, tup3, hn, hl, hq, hq2, w1, w2, ne_eq, not_true_eq_false, Int.reduceEq, and_self, Int.reduceBNe, lookF, setv, reduceCtorEq, Nat.reduceEqDiff, Nat.reduceSub, Nat.reduceLT, Int.reduceEq, eq_self, decide_true, decide_false, Int.cast_ofNat_Int,  true_and, and_true, List.getElem?_cons_zero, List.getElem?_cons_succ, List.length_cons, List.length_nil, List.append_nil, List.nil_append, List.drop_zero, List.map_cons, List.map_nil, Nat.zero_add, Nat.add_zero, frOf, den_nil, den_o0, ↓gd_tt, ↓gd_ff, ↓gd_ft, den_o1, kont_app, den_g, setv, den_skip, den_reg, den_seq, den_cond, den_ret, den_rc, finE_r, ↓reduceIte, ↓e_ext, ↓e_mv, ↓e_pick, ↓e_bin, ↓e_call, ↓e_len, ↓u_binV, ↓binI, ↓evRes, Opd.ev, Sx.get, put, putO, del, dels, rd, retOf, ↓u_callS, canLW, canV, canC, belowL, apH, apH1, SV.ren, SV.renL, newOwn, targets, rms, Kind.isOwn, not_true_eq_false, not_false_eq_true, Nat.le_refl, take_bytes, len_bytes, Nat.mul_one, Int.cast_ofNat_Int]
          exact ⟨[(0, 0)], rfl, by simp [compat, apartM, keysBelow, idHs, List.take_succ_cons, List.nil_append, List.take_nil, and_self]⟩
        · have hq2 : ¬ n * (s : Int) > ((b.length - u : Nat) : Int) := fun h => hq (hd.1 h)
          simp (config := { maxSteps := 1000000 }) only [tabQ, gGetIntR, unB_bytes, hb, fl, capB, hx, tup3, hn, hl, hq, hq2, w1, w2, ne_eq, not_true_eq_false, and_self, Int.reduceBNe, lookF, setv, reduceCtorEq, Nat.reduceEqDiff, Nat.reduceSub, Nat.reduceLT, eq_self, decide_false,  true_and, and_true, List.getElem?_cons_zero, List.getElem?_cons_succ, List.length_cons, List.length_nil, List.append_nil, List.nil_append, List.drop_zero, List.map_cons, List.map_nil, Nat.zero_add, Nat.add_zero, frOf, den_nil, den_o0, ↓gd_ff, ↓gd_ft, den_o1, kont_app, den_g, setv, den_skip, den_reg, den_seq, den_cond, den_ret, finE_r, ↓reduceIte, ↓e_ext, ↓e_mv, ↓e_pick, ↓e_bin, ↓e_call, ↓e_len, ↓u_binV, ↓binI, ↓evRes, Opd.ev, Sx.get, put, putO, del, dels, rd, retOf, ↓u_callS, canLW, canV, canC, belowL, apH, apH1, SV.ren, SV.renL, newOwn, targets, rms, Kind.isOwn, not_true_eq_false, Nat.le_refl, take_bytes, len_bytes, Nat.mul_one]
          exact ⟨[(0, 0)], rfl, by simp [compat, apartM, keysBelow, idHs, List.take_succ_cons, List.nil_append, List.take_nil, and_self]⟩
  · have he' : (e != 0) = true := by simpa using he
    have he2 : (e = 0) = False := by simpa using he
    simp (config := { maxSteps := 1000000 }) only [tabQ, gGetIntR, unB_bytes, hb, fl, capB, hx, tup3, he, he', ne_eq, and_self, lookF, reduceCtorEq, Nat.reduceEqDiff, Nat.reduceSub, Nat.reduceLT, eq_self, Int.cast_ofNat_Int,  true_and, and_true, List.getElem?_cons_zero, List.getElem?_cons_succ, List.length_cons, List.length_nil, List.append_nil, List.nil_append, List.drop_zero, List.map_cons, List.map_nil, Nat.zero_add, Nat.add_zero, frOf, den_nil, den_o0, ↓gd_tt, den_o1, kont_app, den_reg, den_seq, den_cond, den_ret, den_rc, finE_r, ↓reduceIte, ↓e_ext, ↓e_mv, ↓e_bin, ↓e_call, ↓u_binV, ↓binI, ↓evRes, Opd.ev, Sx.get, put, putO, del, dels, rd, retOf, ↓u_callS, canLW, canV, canC, belowL, apH, apH1, SV.ren, SV.renL, newOwn, targets, rms, Kind.isOwn, not_false_eq_true, Nat.le_refl, take_bytes, len_bytes, Nat.mul_one, Int.cast_ofNat_Int]
    exact ⟨[(0, 0)], rfl, by simp [compat, apartM, keysBelow, idHs, List.take_succ_cons, List.nil_append, List.take_nil, and_self]⟩
def gCnt (c : List UInt8 → Nat → Int × Nat × Int) : GS
  | [.slc 0 0 1 len none, .int .i64 z], [(0, ⟨.view, cells⟩)] => match unB cells with
    | some b => if len = b.length ∧ b.length ≤ 2 ^ 40 ∧ 1 ≤ z.toNat ∧ z.toNat ≤ 1000 ∧ z = (z.toNat : Int) then some (tup3 (c b z.toNat), [], 1) else none
    | none => none
  | _, _ => none
theorem gCnt_eq {c : List UInt8 → Nat → Int × Nat × Int} {b : List UInt8} {s : Nat} (hb : b.length ≤ 2 ^ 40) (h1 : 1 ≤ s) (h2 : s ≤ 1000) :
    gCnt c [.slc 0 0 1 b.length none, .int .i64 (s : Int)] [(0, ⟨.view, bys b⟩)] = some (tup3 (c b s), [], 1) := by
  unfold gCnt
  simp only [unB_bytes, Int.toNat_natCast, hb, h1, h2, and_self, if_true]
theorem gCnt_ok {f : FuncId} {c : List UInt8 → Nat → Int × Nat × Int} (h : ∀ (b : List UInt8) (s : Nat), 1 ≤ s → s ≤ 1000 → b.length ≤ 2 ^ 40 →
    Fun Tryd.prog tS f [.slc 0 0 1 b.length none, .int .i64 (s : Int)] [(0, ⟨.view, bys b⟩)] 1 (tup3 (c b s)) [] 1) : FunS Tryd.prog tS f (gCnt c) := by
  intro a0 m0 r m1 n1 hr
  unfold gCnt at hr
  split at hr
  · split at hr
    · rename_i b hb
      split at hr
      · rename_i hc
        obtain ⟨rfl, h1, h2, h3, h4⟩ := hc
        cases hr
        rw [unB_some hb, h4]
        exact ⟨h b _ h2 h3 h1, by simp [freshB]⟩
      · cases hr
    · cases hr
  · cases hr
end Go.Proofs.YtkfbkooobfepeaaDoor

/- Package wire and the reference: the reading of texts. -/
namespace Go.Proofs.YtkfbkooobfepeaaDoor
open Go Go.Sx Sf
set_option maxRecDepth 100000
set_option linter.unusedVariables false
variable {tS : List (Nat × List SV)}
theorem cnt_ok {b : List UInt8} {s : Nat} (h : cntE b s = 0) : ∃ n u : Nat, decS b = ((n : Int), u, 0) ∧ u ≤ b.length ∧ n ≤ (b.length - u) / s ∧ 0 < u := by
  rcases hx : decS b with ⟨n, u, e⟩
  unfold cntE at h
  rw [hx] at h
  simp only at h
  split at h
  · rename_i he; exact absurd h he
  · rename_i he
    have he : e = 0 := by simpa using he
    subst he
    rcases dec_err hx with ⟨_, h1, h2, h3⟩ | ⟨he, _⟩
    · split at h
      · simp at h
      · split at h
        · simp at h
        · exact ⟨n.toNat, u, by rw [show n = ((n.toNat : Nat) : Int) by omega]; simp, h2, by omega, h3⟩
    · exact absurd rfl he
def bytS (b : List UInt8) : List UInt8 × Nat × Int := if cntE b 1 ≠ 0 then ([], 0, cntE b 1) else ((b.drop (decS b).2.1).take (decS b).1.toNat, (decS b).2.1 + (decS b).1.toNat, 0)
def tupB (x : List UInt8 × Nat × Int) : SV := .tup [.str x.1, .int .i64 (x.2.1 : Int), .int .i64 x.2.2]
def tabR : List (FuncId × GS) := [(69, gCnt cntP), (71, gCnt cntR)]
theorem tabR_ok : ∀ x ∈ tabR, FunS Tryd.prog tS x.1 x.2 := by
  intro x hx
  simp only [tabR, List.mem_cons, List.not_mem_nil, or_false] at hx
  rcases hx with rfl | rfl
  · exact gCnt_ok f69
  · exact gCnt_ok f71
theorem drop_bys (b : List UInt8) (k : Nat) : List.drop k (bys b) = bys (b.drop k) := by simp [bys]
theorem takeB (b : List UInt8) (k : Nat) : List.take k (bys b) = bys (b.take k) := by simp [bys]
theorem f60 (b : List UInt8) (hb : b.length ≤ 2 ^ 40) :
    Fun Tryd.prog tS 60 [.slc 0 0 1 b.length none] [(0, ⟨.view, bys b⟩)] 1 (tupB (bytS b)) [] 1 := by
  refine fun_any none (callS tabR cF) (callS_ok tabR_ok cF_ok) chk60 (show 1 ≤ 27 by decide) (by decide) ?_
  unfold sf60 tupB bytS
  have fl := flat_bytes b
  have g1 : gCnt cntP [.slc 0 0 1 b.length none, .int .i64 1] [(0, ⟨.view, bys b⟩)] = some (tup3 (cntP b 1), [], 1) := gCnt_eq (s := 1) hb (by decide) (by decide)
  by_cases he : cntE b 1 = 0
  · obtain ⟨n, u, hx, h1, h2, h3⟩ := cnt_ok he
    have hc : cntP b 1 = ((n : Int), u, 0) := by unfold cntP; rw [hx, he]
    rw [hc] at g1
    rw [Nat.div_one] at h2
    have w1 : IntKind.i64.wrap ((u : Int) + (n : Int)) = ((u + n : Nat) : Int) := by rw [wrap64_eq (by omega) (by omega)]; omega
    have k1 : (0 : Int) ≤ (u : Int) := by omega
    have k2 : (u : Int) ≤ ((u + n : Nat) : Int) := by omega
    have k3 : ((u + n : Nat) : Int) ≤ (b.length : Int) := by omega
    have k4 : u + n - u = n := by omega
    have k5 : u + n ≤ b.length := by omega
    have tk := takeB (b.drop u) n
    simp (config := { maxSteps := 1000000 }) only [tabR, ↓g1, fl, tup3, he, hx, w1, k1, k2, k3, k4, k5, drop_bys, tk, ne_eq, List.cons.injEq, SV.tup.injEq, and_self, Int.reduceBNe, lookF, reduceCtorEq, Nat.reduceEqDiff, Nat.reduceSub, Nat.reduceLT, eq_self,  true_and, and_true, List.getElem?_cons_zero, List.getElem?_cons_succ, List.length_cons, List.length_nil, List.append_nil, List.nil_append, List.drop_zero, List.map_cons, List.map_nil, Nat.zero_add, Nat.add_zero, frOf, den_nil, den_o0, ↓gd_ft, den_o1, kont_app, den_skip, den_reg, den_seq, den_cond, den_ret, finE_r, ↓reduceIte, ↓e_b2s, ↓e_slcS, ↓e_ext, ↓e_mv, ↓e_bin, ↓e_call, ↓u_onOpt1, ↓u_binV, ↓u_srcSl, ↓binI, ↓evRes, Opd.ev, Sx.get, put, putO, del, dels, rd, retOf, ↓u_callS, canLW, canV, canC, belowL, apH, apH1, SV.ren, SV.renL, newOwn, targets, rms, Kind.isOwn, not_true_eq_false, Nat.le_refl, take_bytes, len_bytes, Int.toNat_natCast, Nat.mul_one]
    exact ⟨all_isU8 _, [(0, 0)], ⟨rfl, by simp [compat, apartM, keysBelow, idHs, List.take_succ_cons, List.nil_append, List.take_nil, and_self]⟩, by rw [map_byteOf]⟩
  · have he' : (cntE b 1 != 0) = true := by simpa using he
    have hc : ∃ n u, cntP b 1 = (n, u, cntE b 1) := ⟨_, _, rfl⟩
    obtain ⟨n, u, hc⟩ := hc
    rw [hc] at g1
    simp (config := { maxSteps := 1000000 }) only [tabR, ↓g1, fl, tup3, he, he', ne_eq, and_self, lookF, reduceCtorEq, Nat.reduceEqDiff, Nat.reduceSub, Nat.reduceLT, eq_self, Int.cast_ofNat_Int,  true_and, and_true, List.getElem?_cons_zero, List.getElem?_cons_succ, List.length_cons, List.length_nil, List.append_nil, List.nil_append, List.drop_zero, List.map_cons, List.map_nil, Nat.zero_add, Nat.add_zero, frOf, den_nil, den_o0, ↓gd_tt, den_o1, kont_app, den_reg, den_seq, den_cond, den_ret, den_rc, finE_r, ↓reduceIte, ↓e_ext, ↓e_mv, ↓e_bin, ↓e_call, ↓u_binV, ↓binI, ↓evRes, Opd.ev, Sx.get, put, putO, del, dels, rd, retOf, ↓u_callS, canLW, canV, canC, belowL, apH, apH1, SV.ren, SV.renL, newOwn, targets, rms, Kind.isOwn, not_false_eq_true, Nat.le_refl, take_bytes, len_bytes, Nat.mul_one, Int.cast_ofNat_Int]
    exact ⟨[(0, 0)], rfl, by simp [compat, apartM, keysBelow, idHs, List.take_succ_cons, List.nil_append, List.take_nil, and_self]⟩
theorem f49 (b : List UInt8) (hb : b.length ≤ 2 ^ 40) :
    Fun Tryd.prog tS 49 [.slc 0 0 1 b.length none] [(0, ⟨.view, bys b⟩)] 1 (tupB (bytS b)) [] 1 := by
  refine fun_any none (callS tabR cF) (callS_ok tabR_ok cF_ok) chk49 (show 1 ≤ 27 by decide) (by decide) ?_
  unfold sf49 tupB bytS
  have fl := flat_bytes b
  have g1 : gCnt cntR [.slc 0 0 1 b.length none, .int .i64 1] [(0, ⟨.view, bys b⟩)] = some (tup3 (cntR b 1), [], 1) := gCnt_eq (s := 1) hb (by decide) (by decide)
  by_cases he : cntE b 1 = 0
  · obtain ⟨n, u, hx, h1, h2, h3⟩ := cnt_ok he
    have hc : cntR b 1 = ((n : Int), u, 0) := by unfold cntR; rw [hx, he]; rfl
    rw [hc] at g1
    rw [Nat.div_one] at h2
    have w1 : IntKind.i64.wrap ((u : Int) + (n : Int)) = ((u + n : Nat) : Int) := by rw [wrap64_eq (by omega) (by omega)]; omega
    have k1 : (0 : Int) ≤ (u : Int) := by omega
    have k2 : (u : Int) ≤ ((u + n : Nat) : Int) := by omega
    have k3 : ((u + n : Nat) : Int) ≤ (b.length : Int) := by omega
    have k4 : u + n - u = n := by omega
    have k5 : u + n ≤ b.length := by omega
    have tk := takeB (b.drop u) n
    simp (config := { maxSteps := 1000000 }) only [tabR, ↓g1, fl, tup3, he, hx, w1, k1, k2, k3, k4, k5, drop_bys, tk, ne_eq, List.cons.injEq, SV.tup.injEq, and_self, Int.reduceBNe, lookF, reduceCtorEq, Nat.reduceEqDiff, Nat.reduceSub, Nat.reduceLT, eq_self,  true_and, and_true, List.getElem?_cons_zero, List.getElem?_cons_succ, List.length_cons, List.length_nil, List.append_nil, List.nil_append, List.drop_zero, List.map_cons, List.map_nil, Nat.zero_add, Nat.add_zero, frOf, den_nil, den_o0, ↓gd_ft, den_o1, kont_app, den_skip, den_reg, den_seq, den_cond, den_ret, finE_r, ↓reduceIte, ↓e_b2s, ↓e_slcS, ↓e_ext, ↓e_mv, ↓e_bin, ↓e_call, ↓u_onOpt1, ↓u_binV, ↓u_srcSl, ↓binI, ↓evRes, Opd.ev, Sx.get, put, putO, del, dels, rd, retOf, ↓u_callS, canLW, canV, canC, belowL, apH, apH1, SV.ren, SV.renL, newOwn, targets, rms, Kind.isOwn, not_true_eq_false, Nat.le_refl, take_bytes, len_bytes, Int.toNat_natCast, Nat.mul_one]
    exact ⟨all_isU8 _, [(0, 0)], ⟨rfl, by simp [compat, apartM, keysBelow, idHs, List.take_succ_cons, List.nil_append, List.take_nil, and_self]⟩, by rw [map_byteOf]⟩
  · have he' : (cntE b 1 != 0) = true := by simpa using he
    have hc : ∃ n u, cntR b 1 = (n, u, cntE b 1) := ⟨0, 0, by unfold cntR; rw [if_pos he]⟩
    obtain ⟨n, u, hc⟩ := hc
    rw [hc] at g1
    simp (config := { maxSteps := 1000000 }) only [tabR, ↓g1, fl, tup3, he, he', ne_eq, and_self, lookF, reduceCtorEq, Nat.reduceEqDiff, Nat.reduceSub, Nat.reduceLT, eq_self, Int.cast_ofNat_Int,  true_and, and_true, List.getElem?_cons_zero, List.getElem?_cons_succ, List.length_cons, List.length_nil, List.append_nil, List.nil_append, List.drop_zero, List.map_cons, List.map_nil, Nat.zero_add, Nat.add_zero, frOf, den_nil, den_o0, ↓gd_tt, den_o1, kont_app, den_reg, den_seq, den_cond, den_ret, den_rc, finE_r, ↓reduceIte, ↓e_ext, ↓e_mv, ↓e_bin, ↓e_call, ↓u_binV, ↓binI, ↓evRes, Opd.ev, Sx.get, put, putO, del, dels, rd, retOf, ↓u_callS, canLW, canV, canC, belowL, apH, apH1, SV.ren, SV.renL, newOwn, targets, rms, Kind.isOwn, not_false_eq_true, Nat.le_refl, take_bytes, len_bytes, Nat.mul_one, Int.cast_ofNat_Int]
    exact ⟨[(0, 0)], rfl, by simp [compat, apartM, keysBelow, idHs, List.take_succ_cons, List.nil_append, List.take_nil, and_self]⟩
def gGetBytes : GS
  | [.slc 0 0 1 len none], [(0, ⟨.view, cells⟩)] => match unB cells with
    | some b => if len = b.length ∧ b.length ≤ 2 ^ 40 then some (tupB (bytS b), [], 1) else none
    | none => none
  | _, _ => none
theorem gGetBytes_ok {f : FuncId} (h : ∀ b : List UInt8, b.length ≤ 2 ^ 40 → Fun Tryd.prog tS f [.slc 0 0 1 b.length none] [(0, ⟨.view, bys b⟩)] 1 (tupB (bytS b)) [] 1) : FunS Tryd.prog tS f gGetBytes := by
  intro a0 m0 r m1 n1 hr
  unfold gGetBytes at hr
  split at hr
  · split at hr
    · rename_i b hb
      split at hr
      · rename_i hc
        obtain ⟨rfl, h1⟩ := hc
        cases hr
        rw [unB_some hb]
        exact ⟨h b h1, by simp [freshB]⟩
      · cases hr
    · cases hr
  · cases hr
end Go.Proofs.YtkfbkooobfepeaaDoor

/- Package wire and the reference: the reading of lists of integers. -/
namespace Go.Proofs.YtkfbkooobfepeaaDoor
open Go Go.Sx Sf
set_option maxRecDepth 100000
set_option linter.unusedVariables false
variable {tS : List (Nat × List SV)}
theorem f70 (b : List UInt8) (z : Int) (len : Nat) : Fun Tryd.prog tS 70 [.slc 0 0 1 len none, .int .i64 z] [(0, ⟨.view, bys b⟩)] 1
    (.fn 85 [] [.ptr 1 0, .ptr 2 0]) [(2, ⟨.own 3, [.int .i64 z]⟩), (1, ⟨.own 56, [.slc 0 0 1 len none]⟩)] 3 := by
  refine fun_any none cF cF_ok chk70 (show 2 ≤ 6 by decide) (by decide) ?_
  unfold sf70
  simp (config := { maxSteps := 1000000 }) only [reduceCtorEq, Nat.reduceEqDiff, Nat.reduceAdd, eq_self, List.map_cons, List.map_nil, Nat.zero_add, Nat.add_zero, frOf, den_nil, den_o0, den_o1, kont_app, den_reg, den_seq, den_ret, finE_r, ↓reduceIte, ↓e_box, ↓e_mv, ↓e_mkfn, ↓evRes, Opd.ev, Sx.get, put, putO, del, dels, SV.cells?, SV.one, retOf, eta, SV.ren, SV.renL]
  exact ⟨[(0, 0), (1, 0), (2, 0)], by simp [EntM, compat, apartM, keysBelow, eta, idHs, rd, SV.ren, SV.renL, Option.getD_some, List.length_cons, List.length_nil, Nat.zero_add, Nat.add_zero, Nat.reduceAdd, Nat.reduceLT, Nat.reduceLeDiff, ↓reduceIte, Kind.isOwn, List.take_succ_cons, List.take_zero, List.nil_append, and_self, true_and, exists_eq_left', Option.some.injEq, ne_eq, not_false_eq_true, implies_true, List.not_mem_nil, Bool.true_or, forall_const, List.mem_cons, or_false, forall_eq, Nat.succ_ne_self], by simp [Option.getD_some, List.length_cons, List.length_nil, Nat.zero_add, Nat.add_zero, Nat.reduceAdd, Nat.reduceLT, Nat.reduceLeDiff]⟩
def gReader : GS
  | [.slc 0 0 1 len none, .int .i64 z], [(0, ⟨.view, cells⟩)] => match unB cells with
    | some _ => some (.fn 85 [] [.ptr 1 0, .ptr 2 0], [(2, ⟨.own 3, [.int .i64 z]⟩), (1, ⟨.own 56, [.slc 0 0 1 len none]⟩)], 3)
    | none => none
  | _, _ => none
theorem gReader_ok : FunS Tryd.prog tS 70 gReader := by
  intro a0 m0 r m1 n1 hr
  unfold gReader at hr
  split at hr
  · split at hr
    · rename_i b hb
      cases hr
      rw [unB_some hb]
      exact ⟨f70 b _ _, by simp [freshB]⟩
    · cases hr
  · cases hr
theorem f85 (b : List UInt8) (z : Nat) (hb : b.length ≤ 2 ^ 40) (hz : z ≤ b.length) : Fun Tryd.prog tS 85 [.ptr 0 0, .ptr 2 0] [(0, ⟨.own 56, [.slc 1 0 1 b.length none]⟩), (1, ⟨.view, bys b⟩), (2, ⟨.own 3, [.int .i64 (z : Int)]⟩)] 3
    (tup3 ((decS (b.drop z)).1, z + (decS (b.drop z)).2.1, (decS (b.drop z)).2.2)) [(0, ⟨.own 56, [.slc 1 0 1 b.length none]⟩), (2, ⟨.own 3, [.int .i64 ((z + (decS (b.drop z)).2.1 : Nat) : Int)]⟩)] 3 := by
  refine fun_any none (callS tabQ cF) (callS_ok tabQ_ok cF_ok) chk85 (show 2 ≤ 22 by decide) (by decide) ?_
  unfold sf85 tup3
  rcases hx : decS (b.drop z) with ⟨n, u, e⟩
  have hu : z + u ≤ b.length := by
    rcases dec_err hx with ⟨_, _, h2, _⟩ | ⟨_, _, h2⟩
    · simp at h2; omega
    · omega
  have k1 : (0 : Int) ≤ (z : Int) := by omega
  have k2 : (z : Int) ≤ (b.length : Int) := by omega
  have fl := flat_bytes (b.drop z)
  have hl : (b.drop z).length = b.length - z := by simp
  have k3 : z + (b.length - z) = b.length := by omega
  have k4 : z + (b.length - z) ≤ b.length := by omega
  have tk : List.take (b.length - z) (bys (b.drop z)) = bys (b.drop z) := List.take_of_length_le (by rw [len_bytes]; simp)
  have hb2 : b.length - z ≤ 2 ^ 40 := by omega
  have w1 : IntKind.i64.wrap ((z : Int) + (u : Int)) = ((z + u : Nat) : Int) := by rw [wrap64_eq (by omega) (by omega)]; omega
  simp (config := { maxSteps := 1000000 }) only [tabQ, gGetInt, unB_bytes, capB, drop_bys, Option.map_none, Int.le_refl, fl, hl, k1, k2, k3, tk, hb2, hx, tup3, w1, and_self, lookF, reduceCtorEq, Nat.reduceEqDiff, Nat.reduceSub, Nat.reduceLT, eq_self,  true_and, and_true, List.getElem?_cons_zero, List.getElem?_cons_succ, List.length_cons, List.length_nil, List.append_nil, List.nil_append, List.take_zero, List.drop_succ_cons, List.drop_nil, List.map_cons, List.map_nil, Nat.zero_add, Nat.add_zero, frOf, den_nil, den_o0, den_o1, kont_app, den_reg, den_regP, den_seq, den_ret, finE_r, ↓reduceIte, ↓e_load, ↓e_store, ↓e_slcS, ↓e_ext, ↓e_mv, ↓e_bin, ↓e_call, ↓u_onOpt0, ↓u_onOpt1, ↓u_binV, ↓binI, ↓evRes, Opd.ev, Sx.get, put, putO, del, dels, rd, upd, splice, SV.cells?, SV.one, retOf, ↓u_callS, canLW, canV, canC, belowL, apH, apH1, SV.ren, SV.renL, newOwn, targets, rms, Kind.isOwn, Nat.le_refl, len_bytes, Int.toNat_natCast, Nat.mul_one]
  exact ⟨[(0, 0), (1, 0), (2, 0)], by simp [EntM, compat, apartM, keysBelow, eta, idHs, rd, SV.ren, SV.renL, Option.getD_some, List.length_cons, List.length_nil, Nat.zero_add, Nat.add_zero, Nat.reduceAdd, Nat.reduceEqDiff, Nat.reduceLT, Nat.reduceLeDiff, ↓reduceIte, Kind.isOwn, List.take_succ_cons, List.nil_append, List.cons_append, List.take_nil, and_self, true_and, exists_eq_left', Option.some.injEq, ne_eq, not_false_eq_true, implies_true, List.not_mem_nil, Bool.true_or, forall_const, reduceCtorEq, List.mem_cons, or_false, forall_eq]⟩
def rdN (b : List UInt8) : Nat → Nat → List Int × Nat × Int
  | 0, z => ([], z, 0)
  | k + 1, z => if (decS (b.drop z)).2.2 ≠ 0 then ([], 0, (decS (b.drop z)).2.2) else
    if (rdN b k (z + (decS (b.drop z)).2.1)).2.2 ≠ 0 then ([], 0, (rdN b k (z + (decS (b.drop z)).2.1)).2.2) else
    ((decS (b.drop z)).1 :: (rdN b k (z + (decS (b.drop z)).2.1)).1, (rdN b k (z + (decS (b.drop z)).2.1)).2.1, 0)
def intsS (b : List UInt8) : List Int × Nat × Int := if cntE b 1 ≠ 0 then ([], 0, cntE b 1) else rdN b (decS b).1.toNat (decS b).2.1
def gNext : GS
  | [.ptr 0 0, .ptr 2 0], [(0, ⟨.own 56, [.slc 1 0 1 len none]⟩), (1, ⟨.view, cells⟩), (2, ⟨.own 3, [.int .i64 z]⟩)] => match unB cells with
    | some b => if len = b.length ∧ b.length ≤ 2 ^ 40 ∧ z.toNat ≤ b.length ∧ z = (z.toNat : Int) then
        some (tup3 ((decS (b.drop z.toNat)).1, z.toNat + (decS (b.drop z.toNat)).2.1, (decS (b.drop z.toNat)).2.2), [(0, ⟨.own 56, [.slc 1 0 1 b.length none]⟩), (2, ⟨.own 3, [.int .i64 ((z.toNat + (decS (b.drop z.toNat)).2.1 : Nat) : Int)]⟩)], 3) else none
    | none => none
  | _, _ => none
theorem gNext_ok : FunS Tryd.prog tS 85 gNext := by
  intro a0 m0 r m1 n1 hr
  unfold gNext at hr
  split at hr
  · split at hr
    · rename_i b hb
      split at hr
      · rename_i hc
        obtain ⟨rfl, h1, h2, h3⟩ := hc
        cases hr
        rw [unB_some hb]
        have := f85 (tS := tS) b _ h1 h2
        rw [← h3] at this
        exact ⟨this, .inr ⟨_, List.mem_cons_self, own_of rfl⟩, .inr ⟨_, List.mem_cons_of_mem _ (List.mem_cons_of_mem _ List.mem_cons_self), own_of rfl⟩, trivial⟩
      · cases hr
    · cases hr
  · cases hr
theorem gNext_eq {b : List UInt8} {z : Nat} (hb : b.length ≤ 2 ^ 40) (hz : z ≤ b.length) :
    gNext [.ptr 0 0, .ptr 2 0] [(0, ⟨.own 56, [.slc 1 0 1 b.length none]⟩), (1, ⟨.view, bys b⟩), (2, ⟨.own 3, [.int .i64 (z : Int)]⟩)] =
      some (tup3 ((decS (b.drop z)).1, z + (decS (b.drop z)).2.1, (decS (b.drop z)).2.2), [(0, ⟨.own 56, [.slc 1 0 1 b.length none]⟩), (2, ⟨.own 3, [.int .i64 ((z + (decS (b.drop z)).2.1 : Nat) : Int)]⟩)], 3) := by
  unfold gNext
  simp only [unB_bytes, Int.toNat_natCast, hb, hz, and_self, if_true]
def tabT : List (FuncId × GS) := [(69, gCnt cntP), (70, gReader), (85, gNext)]
theorem tabT_ok : ∀ x ∈ tabT, FunS Tryd.prog tS x.1 x.2 := by
  intro x hx
  simp only [tabT, List.mem_cons, List.not_mem_nil, or_false] at hx
  rcases hx with rfl | rfl | rfl
  · exact gCnt_ok f69
  · exact gReader_ok
  · exact gNext_ok
def pre3 (l : List Int) (x : List Int × Nat × Int) : List Int × Nat × Int := if x.2.2 ≠ 0 then ([], 0, x.2.2) else (l ++ x.1, x.2.1, 0)
theorem rdN_succ {b : List UInt8} {k z : Nat} {l : List Int} (he : (decS (b.drop z)).2.2 = 0) : pre3 l (rdN b (k + 1) z) = pre3 (l ++ [(decS (b.drop z)).1]) (rdN b k (z + (decS (b.drop z)).2.1)) := by
  unfold pre3
  simp only [rdN, he, ne_eq, not_true_eq_false, if_false]
  by_cases h2 : (rdN b k (z + (decS (b.drop z)).2.1)).2.2 = 0
  · simp only [h2, not_true_eq_false, if_false]; simp
  · simp only [h2, not_false_eq_true, if_true]
theorem rdN_err {b : List UInt8} {k z : Nat} {l : List Int} (he : (decS (b.drop z)).2.2 ≠ 0) : pre3 l (rdN b (k + 1) z) = ([], 0, (decS (b.drop z)).2.2) := by
  unfold pre3
  simp only [rdN, he, ne_eq, not_false_eq_true, if_true]
theorem rdN_zero {b : List UInt8} {z : Nat} {l : List Int} : pre3 l (rdN b 0 z) = (l, z, 0) := by
  simp [pre3, rdN]
theorem rdN_pre {b : List UInt8} : ∀ (k z : Nat), pre3 [] (rdN b k z) = rdN b k z := by
  intro k z
  unfold pre3
  cases k with
  | zero => simp [rdN]
  | succ k =>
    simp only [rdN]
    split
    · rename_i h; simp only
    · split
      · rename_i h; simp only
      · simp
def rI (i : Nat) (x : List Int × Nat × Int) : SV := .tup [nlS i 1 x.1.length, .int .i64 (x.2.1 : Int), .int .i64 x.2.2]
set_option maxHeartbeats 8000000 in
theorem f43 (b : List UInt8) (hb : b.length ≤ 2 ^ 36) : Fun Tryd.prog tS 43 [.slc 0 0 1 b.length none] [(0, ⟨.view, bys b⟩)] 1
    (rI 1 (intsS b)) (nlM 1 3 (ints (intsS b).1) [] (intsS b).1.length) (nlN 1 (intsS b).1.length) := by
  refine fun_any none (callS tabT cF) (callS_ok tabT_ok cF_ok) chk43 (show 1 ≤ 45 by decide) (by cases (intsS b).1.length <;> simp [nlN]) ?_
  unfold sf43 rI
  have hb40 : b.length ≤ 2 ^ 40 := by omega
  have fl := flat_bytes b
  have g1 : gCnt cntP [.slc 0 0 1 b.length none, .int .i64 1] [(0, ⟨.view, bys b⟩)] = some (tup3 (cntP b 1), [], 1) := gCnt_eq (s := 1) hb40 (by decide) (by decide)
  by_cases he : cntE b 1 = 0
  · obtain ⟨n, u, hx, h1, h2, h3⟩ := cnt_ok he
    have hc : cntP b 1 = ((n : Int), u, 0) := by unfold cntP; rw [hx, he]
    have hS : intsS b = rdN b n u := by unfold intsS; rw [hx, he]; simp
    rw [hc] at g1
    rw [Nat.div_one] at h2
    simp (config := { maxSteps := 1000000 }) only [tabT, gReader, unB_bytes, ↓g1, fl, tup3, and_self, Int.reduceBNe, lookF, reduceCtorEq, Nat.reduceEqDiff, Nat.reduceAdd, Nat.reduceSub, Nat.reduceLT, eq_self,  true_and, List.getElem?_cons_zero, List.getElem?_cons_succ, List.length_cons, List.length_nil, List.append_nil, List.nil_append, List.cons_append, List.drop_zero, List.map_cons, List.map_nil, Nat.zero_add, Nat.add_zero, frOf, den_o0, ↓gd_ft, den_o1, kont_app, den_skip, den_reg, den_seq, den_cond, den_block, ↓reduceIte, ↓e_ext, ↓e_mv, ↓e_bin, ↓e_call, ↓u_binV, ↓binI, Opd.ev, Sx.get, put, putO, del, dels, rd, ↓u_callS, canLW, canV, canC, belowL, apH, apH1, eta, SV.ren, SV.renL, newOwn, targets, rms, Kind.isOwn, List.getElem?_nil, Option.getD_none, Option.getD_some, Nat.le_refl, take_bytes, len_bytes, Nat.mul_one]
    rw [den_loop, hS]
    refine den_inv (callS_ok tabT_ok cF_ok) (σ := Nat × Nat × List Int) (fun s => [(26, .int .i64 (s.1 : Int)), (25, .int .i64 (n : Int)), (9, nlS 3 1 s.2.2.length), (8, .fn 85 [] [.ptr 1 0, .ptr 2 0]), (6, .int .i64 (s.2.1 : Int))])
      (fun s => nlM 3 3 (ints s.2.2) [(2, ⟨.own 3, [.int .i64 (s.2.1 : Int)]⟩), (1, ⟨.own 56, [.slc 0 0 1 b.length none]⟩), (0, ⟨.view, bys b⟩)] s.2.2.length) (fun s => nlN 3 s.2.2.length)
      (fun s => s.1 ≤ n ∧ s.2.1 ≤ b.length ∧ s.2.2.length = s.1 ∧ rdN b n u = pre3 s.2.2 (rdN b (n - s.1) s.2.1)) (fun s => n - s.1) (0, u, []) ?_ ⟨Nat.zero_le _, h1, rfl, (rdN_pre _ _).symm⟩ ?_
    · exact ⟨[(0, 0), (1, 0), (2, 0)], by simp [EntM, compat, apartM, keysBelow, eta, idHs, rd, SV.ren, SV.renL, Option.getD_some, List.length_cons, List.length_nil, Nat.zero_add, Nat.add_zero, Nat.reduceAdd, Nat.reduceLT, Nat.reduceLeDiff, ↓reduceIte, Kind.isOwn, List.take_succ_cons, List.take_zero, List.nil_append, and_self, true_and, exists_eq_left', Option.some.injEq, List.drop_zero, ne_eq, not_false_eq_true, implies_true, List.not_mem_nil, Bool.false_or, Bool.true_or, forall_const, reduceCtorEq, List.mem_cons, or_false, forall_eq_or_imp, forall_eq, Nat.succ_ne_self, ren_bytes, len_bytes, take_bytes, nlM_0, nlN_0], by simp [frEnt, geto, eta, SV.ren, SV.renL, Option.getD_some, List.length_cons, List.length_nil, Nat.zero_add, Nat.add_zero, Nat.reduceAdd, Nat.reduceEqDiff, Nat.reduceLT, Nat.reduceLeDiff, ↓reduceIte, and_self, Nat.succ_ne_self, nlS_0]⟩
    rintro ⟨i, z, l⟩ ⟨hi, hz, hl, hinv⟩
    simp only at hi hz hl hinv
    by_cases hin : i < n
    · have c1 : (i : Int) < (n : Int) := by omega
      have wi : IntKind.i64.wrap ((i : Int) + 1) = ((i + 1 : Nat) : Int) := by rw [wrap64_eq (by omega) (by omega)]; omega
      have g2 := gNext_eq hb40 hz
      rw [show n - i = (n - (i + 1)) + 1 by omega] at hinv
      rcases hq : decS (b.drop z) with ⟨x, q, e⟩
      rw [hq] at g2
      simp only [tup3] at g2
      by_cases hee : e = 0
      · subst hee
        have hzq : z + q ≤ b.length := by
          rcases dec_err hq with ⟨_, _, h2, _⟩ | ⟨h, _, _⟩
          · simp at h2; omega
          · exact absurd rfl h
        rw [rdN_succ (by rw [hq])] at hinv
        rw [hq] at hinv
        simp only at hinv
        have ha : ints l ++ [.int .i64 x] = ints (l ++ [x]) := by simp [ints]
        rcases Nat.eq_zero_or_pos l.length with h0 | h0
        · have hl0 : l = [] := List.length_eq_zero_iff.1 h0
          subst hl0
          simp (config := { maxSteps := 1000000 }) only [↓g2, fl, c1, wi, ne_eq, SV.flatL, SV.flat, Bool.and_true, Bool.and_self, and_self, Int.reduceBNe, lookF, again_n, reduceCtorEq, Nat.reduceEqDiff, Nat.reduceAdd, Nat.reduceSub, Nat.reduceMul, Nat.reduceLT, eq_self, decide_true,  true_and, imp_self, List.getElem?_cons_zero, List.getElem?_cons_succ, List.length_cons, List.length_nil, List.append_nil, List.nil_append, List.cons_append, List.take_succ_cons, List.take_zero, List.drop_succ_cons, List.drop_zero, List.take_nil, List.drop_nil, List.map_nil, Nat.zero_add, Nat.add_zero, den_nil, den_o0, ↓gd_tt, ↓gd_ft, den_o1, kont_app, den_skip, den_reg, Bool.or_false, Bool.or_self, Bool.or_true, den_seq, den_cond, den_block, den_b, ↓reduceIte, ↓e_bslice, ↓e_ext, ↓e_app, ↓e_mv, ↓e_bin, ↓e_callv, ↓u_binV, ↓u_srcOf, ↓u_srcSl, ↓binI, ↓fillE, Opd.ev, Sx.get, put, putO, del, dels, rd, rm, splice, SV.cells?, SV.one, ↓u_callS, canLW, canV, canC, belowL, apH, apH1, eta, SV.ren, SV.renL, newOwn, targets, rms, Kind.isOwn, Option.getD_some, not_false_eq_true, Nat.le_refl, take_bytes, nlS_0, nlM_0, nlN_0, len_bytes, Nat.mul_one]
          exact ⟨by omega, by omega, (i + 1, z + q, [x]), ⟨[(0, 0), (1, 0), (2, 0), (4, 0)], by simp [ints, EntM, compat, apartM, keysBelow, eta, idHs, rd, SV.ren, SV.renL, Option.getD_some, List.length_cons, List.length_nil, Nat.zero_add, Nat.add_zero, Nat.reduceAdd, Nat.reduceEqDiff, Nat.reduceLT, Nat.reduceLeDiff, ↓reduceIte, Kind.isOwn, List.take_succ_cons, List.take_zero, List.nil_append, and_self, true_and, exists_eq_left', Option.some.injEq, List.drop_zero, ne_eq, not_false_eq_true, implies_true, List.not_mem_nil, Bool.false_or, Bool.true_or, forall_const, reduceCtorEq, List.mem_cons, or_false, forall_eq_or_imp, forall_eq, Nat.succ_ne_self, ren_bytes, len_bytes, take_bytes, nlM_1, nlN_1], by simp [frEnt, geto, eta, SV.ren, SV.renL, Option.getD_some, List.length_cons, List.length_nil, Nat.zero_add, Nat.add_zero, Nat.reduceAdd, Nat.reduceEqDiff, Nat.reduceLT, Nat.reduceLeDiff, ↓reduceIte, and_self, Nat.succ_ne_self, nlS_1]⟩, ⟨by simp only; omega, by simp only; omega, by simp at hl; simp; omega, by simpa using hinv⟩, by simp only; omega⟩
        · rw [nlS_p h0, nlM_p h0, nlN_p h0]
          simp (config := { maxSteps := 1000000 }) only [↓g2, fl, c1, wi, ne_eq, SV.flatL, SV.flat, Bool.and_true, Bool.and_self, and_self, Int.reduceBNe, lookF, again_n, reduceCtorEq, Nat.reduceEqDiff, Nat.reduceAdd, Nat.reduceSub, Nat.reduceLT, eq_self, decide_true,  true_and, imp_self, List.getElem?_cons_zero, List.getElem?_cons_succ, List.length_cons, List.length_nil, List.append_nil, List.nil_append, List.cons_append, List.take_succ_cons, List.take_zero, List.drop_succ_cons, List.drop_zero, List.take_nil, List.drop_nil, List.map_nil, Nat.zero_add, Nat.add_zero, den_nil, den_o0, ↓gd_tt, ↓gd_ft, den_o1, kont_app, den_skip, den_reg, Bool.or_false, Bool.or_self, Bool.or_true, den_seq, den_cond, den_block, den_b, ↓reduceIte, ↓e_bslice, ↓e_ext, ↓e_app, ↓e_mv, ↓e_bin, ↓e_callv, ↓u_binV, ↓u_srcOf, ↓u_srcSl, ↓binI, ↓fillE, Opd.ev, Sx.get, put, putO, del, dels, rd, rm, splice, SV.cells?, SV.one, ↓u_callS, canLW, canV, canC, belowL, apH, apH1, eta, SV.ren, SV.renL, newOwn, targets, rms, Kind.isOwn, len_ints, Option.getD_some, not_false_eq_true, Nat.le_refl, take_bytes, take_ints, len_bytes, Nat.mul_one]
          rw [ha]
          exact ⟨by omega, by omega, (i + 1, z + q, l ++ [x]), ⟨[(0, 0), (1, 0), (2, 0), (5, 0)], by simp [EntM, compat, apartM, keysBelow, eta, idHs, rd, SV.ren, SV.renL, Option.getD_some, List.length_cons, List.length_nil, Nat.zero_add, Nat.add_zero, Nat.reduceAdd, Nat.reduceEqDiff, Nat.reduceLT, Nat.reduceLeDiff, ↓reduceIte, Kind.isOwn, List.take_succ_cons, List.take_zero, List.nil_append, and_self, true_and, exists_eq_left', Option.some.injEq, List.drop_zero, ne_eq, not_false_eq_true, implies_true, List.not_mem_nil, Bool.false_or, Bool.true_or, forall_const, reduceCtorEq, List.mem_cons, or_false, forall_eq_or_imp, forall_eq, Nat.succ_ne_self, ren_bytes, len_bytes, take_bytes, nlM_1, nlN_1, ren_ints], by simp [frEnt, geto, eta, SV.ren, SV.renL, Option.getD_some, List.length_cons, List.length_nil, Nat.zero_add, Nat.add_zero, Nat.reduceAdd, Nat.reduceEqDiff, Nat.reduceLT, Nat.reduceLeDiff, ↓reduceIte, and_self, Nat.succ_ne_self, nlS_1]⟩, ⟨by simp only; omega, by simp only; omega, by simp; omega, hinv⟩, by simp only; omega⟩
      · have hb2 : (e != 0) = true := by simpa using hee
        rw [rdN_err (by rw [hq]; exact hee)] at hinv
        rw [hq] at hinv
        rcases Nat.eq_zero_or_pos l.length with h0 | h0
        · rw [nlS_z h0, nlM_z h0, nlN_z h0]
          simp (config := { maxSteps := 1000000 }) only [↓g2, fl, c1, hb2, hinv, ne_eq, SV.flatL, SV.flat, Bool.and_true, Bool.and_self, and_self, lookF, again_r, reduceCtorEq, Nat.reduceEqDiff, Nat.reduceAdd, Nat.reduceSub, Nat.reduceLT, eq_self, decide_true, Int.cast_ofNat_Int,  true_and, and_true, imp_self, List.getElem?_cons_zero, List.getElem?_cons_succ, List.length_cons, List.length_nil, List.append_nil, List.nil_append, List.cons_append, List.drop_zero, List.map_nil, Nat.zero_add, Nat.add_zero, den_nil, den_o0, ↓gd_tt, den_o1, kont_app, den_skip, den_reg, Bool.or_false, Bool.or_self, Bool.or_true, den_seq, den_cond, den_block, den_ret, den_rb, den_rc, finE_r, ↓reduceIte, ↓e_ext, ↓e_mv, ↓e_bin, ↓e_callv, ↓u_binV, ↓binI, ↓evRes, Opd.ev, Sx.get, put, putO, del, dels, rd, rm, retOf, ↓u_callS, canLW, canV, canC, belowL, apH, apH1, eta, SV.ren, SV.renL, newOwn, targets, rms, Kind.isOwn, Option.getD_some, not_false_eq_true, Nat.le_refl, take_bytes, nlS_0, nlM_0, nlN_0, len_bytes, Nat.mul_one, Int.cast_ofNat_Int]
          exact ⟨[(0, 0)], rfl, by simp [compat, apartM, keysBelow, idHs, List.take_succ_cons, List.nil_append, List.take_nil, and_self]⟩
        · rw [nlS_p h0, nlM_p h0, nlN_p h0]
          simp (config := { maxSteps := 1000000 }) only [↓g2, fl, c1, hb2, hinv, ne_eq, SV.flatL, SV.flat, Bool.and_true, Bool.and_self, and_self, lookF, again_r, reduceCtorEq, Nat.reduceEqDiff, Nat.reduceAdd, Nat.reduceSub, Nat.reduceLT, eq_self, decide_true, Int.cast_ofNat_Int,  true_and, and_true, imp_self, List.getElem?_cons_zero, List.getElem?_cons_succ, List.length_cons, List.length_nil, List.append_nil, List.nil_append, List.cons_append, List.drop_zero, List.map_nil, Nat.zero_add, Nat.add_zero, den_nil, den_o0, ↓gd_tt, den_o1, kont_app, den_skip, den_reg, Bool.or_false, Bool.or_self, Bool.or_true, den_seq, den_cond, den_block, den_ret, den_rb, den_rc, finE_r, ↓reduceIte, ↓e_ext, ↓e_mv, ↓e_bin, ↓e_callv, ↓u_binV, ↓binI, ↓evRes, Opd.ev, Sx.get, put, putO, del, dels, rd, rm, retOf, ↓u_callS, canLW, canV, canC, belowL, apH, apH1, eta, SV.ren, SV.renL, newOwn, targets, rms, Kind.isOwn, Option.getD_some, not_false_eq_true, Nat.le_refl, take_bytes, nlS_0, nlM_0, nlN_0, len_bytes, Nat.mul_one, Int.cast_ofNat_Int]
          exact ⟨[(0, 0)], rfl, by simp [compat, apartM, keysBelow, idHs, List.take_succ_cons, List.nil_append, List.take_nil, and_self]⟩
    · obtain rfl : i = n := by omega
      rw [Nat.sub_self, rdN_zero] at hinv
      have c1 : ¬ (i : Int) < (i : Int) := by omega
      rw [hinv]
      rcases Nat.eq_zero_or_pos l.length with h0 | h0
      · rw [nlS_z h0, nlM_z h0, nlN_z h0]
        simp (config := { maxSteps := 1000000 }) only [c1, nlS_z h0, nlM_z h0, nlN_z h0, again_x, Nat.reduceEqDiff, eq_self, decide_false,  true_and, and_true, den_nil, den_o0, ↓gd_ft, den_o1, kont_app, den_reg, den_seq, den_cond, den_exit, den_ret, den_xb, den_xc, finE_r, ↓reduceIte, ↓e_mv, ↓e_bin, ↓u_binV, ↓binI, ↓evRes, Opd.ev, Sx.get, put, putO, del, dels, retOf, SV.ren, SV.renL]
        exact ⟨[(0, 0)], rfl, by simp [compat, apartM, keysBelow, idHs, List.take_succ_cons, List.nil_append, List.take_nil, and_self]⟩
      · rw [nlS_p h0, nlM_p h0, nlN_p h0]
        simp (config := { maxSteps := 1000000 }) only [c1, nlS_p h0, nlM_p h0, nlN_p h0, List.cons.injEq, SV.tup.injEq, again_x, Nat.reduceEqDiff, Nat.reduceAdd, eq_self, decide_false,  true_and, and_true, Nat.add_zero, den_nil, den_o0, ↓gd_ft, den_o1, kont_app, den_reg, den_seq, den_cond, den_exit, den_ret, den_xb, den_xc, finE_r, ↓reduceIte, ↓e_mv, ↓e_bin, ↓u_binV, ↓binI, ↓evRes, Opd.ev, Sx.get, put, putO, del, dels, retOf, eta, SV.ren, SV.renL]
        exact ⟨[(0, 0), (3, 0)], by simp [EntM, compat, apartM, keysBelow, eta, idHs, rd, Option.getD_some, List.length_cons, List.length_nil, Nat.zero_add, Nat.add_zero, Nat.reduceAdd, Nat.reduceLeDiff, ↓reduceIte, Kind.isOwn, List.take_succ_cons, List.take_zero, List.nil_append, and_self, true_and, exists_eq_left', Option.some.injEq, ne_eq, implies_true, List.not_mem_nil, Bool.true_or, forall_const, ren_ints], by simp [Option.getD_some, List.length_cons, List.length_nil, Nat.zero_add, Nat.add_zero, Nat.reduceAdd, Nat.reduceLeDiff]⟩
  · have he' : (cntE b 1 != 0) = true := by simpa using he
    have hS : intsS b = ([], 0, cntE b 1) := by unfold intsS; rw [if_pos he]
    have hc : ∃ n u, cntP b 1 = (n, u, cntE b 1) := ⟨_, _, rfl⟩
    obtain ⟨n, u, hc⟩ := hc
    rw [hc] at g1
    rw [hS]
    simp (config := { maxSteps := 1000000 }) only [tabT, ↓g1, fl, tup3, he', and_self, lookF, reduceCtorEq, Nat.reduceEqDiff, Nat.reduceSub, Nat.reduceLT, eq_self, Int.cast_ofNat_Int,  true_and, and_true, List.getElem?_cons_zero, List.getElem?_cons_succ, List.length_cons, List.length_nil, List.append_nil, List.nil_append, List.drop_zero, List.map_cons, List.map_nil, Nat.zero_add, Nat.add_zero, frOf, den_nil, den_o0, ↓gd_tt, den_o1, kont_app, den_reg, den_seq, den_cond, den_ret, den_rc, finE_r, ↓reduceIte, ↓e_ext, ↓e_mv, ↓e_bin, ↓e_call, ↓u_binV, ↓binI, ↓evRes, Opd.ev, Sx.get, put, putO, del, dels, rd, retOf, ↓u_callS, canLW, canV, canC, belowL, apH, apH1, SV.ren, SV.renL, newOwn, targets, rms, Kind.isOwn, Nat.le_refl, take_bytes, nlS_0, nlM_0, nlN_0, len_bytes, Nat.mul_one, Int.cast_ofNat_Int]
    exact ⟨[(0, 0)], rfl, by simp [compat, apartM, keysBelow, idHs, List.take_succ_cons, List.nil_append, List.take_nil, and_self]⟩
def tabU : List (FuncId × GS) := [(71, gCnt cntR), (50, gGetIntR)]
theorem tabU_ok : ∀ x ∈ tabU, FunS Tryd.prog tS x.1 x.2 := by
  intro x hx
  simp only [tabU, List.mem_cons, List.not_mem_nil, or_false] at hx
  rcases hx with rfl | rfl
  · exact gCnt_ok f71
  · exact gGetIntR_ok
set_option maxHeartbeats 8000000 in
theorem f48 (b : List UInt8) (hb : b.length ≤ 2 ^ 36) : Fun Tryd.prog tS 48 [.slc 0 0 1 b.length none] [(0, ⟨.view, bys b⟩)] 1
    (rI 1 (intsS b)) (nlM 1 3 (ints (intsS b).1) [] (intsS b).1.length) (nlN 1 (intsS b).1.length) := by
  refine fun_any none (callS tabU cF) (callS_ok tabU_ok cF_ok) chk48 (show 1 ≤ 47 by decide) (by cases (intsS b).1.length <;> simp [nlN]) ?_
  unfold sf48 rI
  have hb40 : b.length ≤ 2 ^ 40 := by omega
  have fl := flat_bytes b
  have g1 : gCnt cntR [.slc 0 0 1 b.length none, .int .i64 1] [(0, ⟨.view, bys b⟩)] = some (tup3 (cntR b 1), [], 1) := gCnt_eq (s := 1) hb40 (by decide) (by decide)
  by_cases he : cntE b 1 = 0
  · obtain ⟨n, u, hx, h1, h2, h3⟩ := cnt_ok he
    have hc : cntR b 1 = ((n : Int), u, 0) := by unfold cntR; rw [hx, he]; rfl
    have hS : intsS b = rdN b n u := by unfold intsS; rw [hx, he]; simp
    rw [hc] at g1
    rw [Nat.div_one] at h2
    simp (config := { maxSteps := 1000000 }) only [tabU, ↓g1, fl, tup3, and_self, Int.reduceBNe, lookF, reduceCtorEq, Nat.reduceEqDiff, Nat.reduceSub, Nat.reduceLT, eq_self,  true_and, List.getElem?_cons_zero, List.getElem?_cons_succ, List.length_cons, List.length_nil, List.append_nil, List.nil_append, List.drop_zero, List.map_cons, List.map_nil, Nat.zero_add, Nat.add_zero, frOf, den_o0, ↓gd_ft, den_o1, kont_app, den_skip, den_reg, den_seq, den_cond, den_block, ↓reduceIte, ↓e_ext, ↓e_mv, ↓e_bin, ↓e_call, ↓u_binV, ↓binI, Opd.ev, Sx.get, put, putO, del, dels, rd, ↓u_callS, canLW, canV, canC, belowL, apH, apH1, SV.ren, SV.renL, newOwn, targets, rms, Kind.isOwn, Nat.le_refl, take_bytes, len_bytes, Nat.mul_one]
    rw [den_loop, hS]
    refine den_inv (callS_ok tabU_ok cF_ok) (σ := Nat × Nat × List Int) (fun s => [(9, .int .i64 (s.1 : Int)), (5, .int .i64 (n : Int)), (8, nlS 1 1 s.2.2.length), (0, .slc 0 0 1 b.length none), (6, .int .i64 (s.2.1 : Int))])
      (fun s => nlM 1 3 (ints s.2.2) [(0, ⟨.view, bys b⟩)] s.2.2.length) (fun s => nlN 1 s.2.2.length)
      (fun s => s.1 ≤ n ∧ s.2.1 ≤ b.length ∧ s.2.2.length = s.1 ∧ rdN b n u = pre3 s.2.2 (rdN b (n - s.1) s.2.1)) (fun s => n - s.1) (0, u, []) ?_ ⟨Nat.zero_le _, h1, rfl, (rdN_pre _ _).symm⟩ ?_
    · exact ⟨[(0, 0)], by simp [EntM, compat, apartM, keysBelow, eta, idHs, rd, Option.getD_some, List.length_cons, List.length_nil, Nat.zero_add, Nat.add_zero, ↓reduceIte, Kind.isOwn, List.take_succ_cons, List.nil_append, List.take_nil, and_self, exists_eq_left', Option.some.injEq, List.drop_zero, ne_eq, implies_true, List.not_mem_nil, Bool.false_or, ren_bytes, len_bytes, take_bytes, nlM_0, nlN_0], by simp [frEnt, geto, eta, SV.ren, Option.getD_some, List.length_cons, List.length_nil, Nat.zero_add, Nat.add_zero, Nat.reduceEqDiff, ↓reduceIte, and_self, reduceCtorEq, Nat.succ_ne_self, nlS_0]⟩
    rintro ⟨i, z, l⟩ ⟨hi, hz, hl, hinv⟩
    simp only at hi hz hl hinv
    by_cases hin : i < n
    · have c1 : (i : Int) < (n : Int) := by omega
      have wi : IntKind.i64.wrap ((i : Int) + 1) = ((i + 1 : Nat) : Int) := by rw [wrap64_eq (by omega) (by omega)]; omega
      rw [show n - i = (n - (i + 1)) + 1 by omega] at hinv
      rcases hq : decS (b.drop z) with ⟨x, q, e⟩
      have k1 : (0 : Int) ≤ (z : Int) := by omega
      have k2 : (z : Int) ≤ (b.length : Int) := by omega
      have fz := flat_bytes (b.drop z)
      have hlz : (b.drop z).length = b.length - z := by simp
      have k4 : z + (b.length - z) ≤ b.length := by omega
      have tk : List.take (b.length - z) (bys (b.drop z)) = bys (b.drop z) := List.take_of_length_le (by rw [len_bytes]; simp)
      have hb2 : b.length - z ≤ 2 ^ 40 := by omega
      by_cases hee : e = 0
      · subst hee
        have hzq : z + q ≤ b.length := by
          rcases dec_err hq with ⟨_, _, h2, _⟩ | ⟨h, _, _⟩
          · simp at h2; omega
          · exact absurd rfl h
        have w1 : IntKind.i64.wrap ((z : Int) + (q : Int)) = ((z + q : Nat) : Int) := by rw [wrap64_eq (by omega) (by omega)]; omega
        rw [rdN_succ (by rw [hq])] at hinv
        rw [hq] at hinv
        simp only at hinv
        have ha : ints l ++ [.int .i64 x] = ints (l ++ [x]) := by simp [ints]
        rcases Nat.eq_zero_or_pos l.length with h0 | h0
        · have hl0 : l = [] := List.length_eq_zero_iff.1 h0
          subst hl0
          simp (config := { maxSteps := 1000000 }) only [gGetIntR, unB_bytes, capB, drop_bys, Option.map_none, Int.le_refl, hlz, k1, k2, k4, tk, hb2, hq, tup3, w1, fz, c1, wi, and_self, Int.reduceBNe, lookF, again_n, reduceCtorEq, Nat.reduceEqDiff, Nat.reduceAdd, Nat.reduceSub, Nat.reduceMul, Nat.reduceLT, eq_self, decide_true,  true_and, List.getElem?_cons_zero, List.getElem?_cons_succ, List.length_cons, List.length_nil, List.append_nil, List.nil_append, List.take_succ_cons, List.take_zero, List.drop_succ_cons, List.drop_zero, List.take_nil, List.drop_nil, List.map_cons, List.map_nil, Nat.zero_add, Nat.add_zero, den_nil, den_o0, ↓gd_tt, ↓gd_ft, den_o1, kont_app, den_skip, den_reg, den_seq, den_cond, den_block, den_b, ↓reduceIte, ↓e_bslice, ↓e_slcS, ↓e_ext, ↓e_app, ↓e_mv, ↓e_bin, ↓e_call, ↓u_onOpt0, ↓u_onOpt1, ↓u_binV, ↓u_srcOf, ↓u_srcSl, ↓binI, ↓fillE, Opd.ev, Sx.get, put, putO, del, dels, rd, splice, SV.cells?, SV.one, ↓u_callS, canLW, canV, canC, belowL, apH, apH1, SV.ren, SV.renL, newOwn, targets, rms, Kind.isOwn, Nat.le_refl, nlS_0, nlM_0, nlN_0, len_bytes, Int.toNat_natCast, Nat.mul_one]
          exact ⟨by omega, by omega, (i + 1, z + q, [x]), ⟨[(0, 0), (2, 0)], by simp [ints, EntM, compat, apartM, keysBelow, eta, idHs, rd, SV.ren, SV.renL, Option.getD_some, List.length_cons, List.length_nil, Nat.zero_add, Nat.add_zero, Nat.reduceAdd, Nat.reduceLeDiff, ↓reduceIte, Kind.isOwn, List.take_succ_cons, List.take_zero, List.nil_append, and_self, true_and, exists_eq_left', Option.some.injEq, List.drop_zero, ne_eq, not_false_eq_true, implies_true, List.not_mem_nil, Bool.false_or, Bool.true_or, forall_const, reduceCtorEq, List.mem_cons, or_false, forall_eq, Nat.succ_ne_self, ren_bytes, len_bytes, take_bytes, nlM_1, nlN_1], by simp [frEnt, geto, eta, SV.ren, Option.getD_some, List.length_cons, List.length_nil, Nat.zero_add, Nat.add_zero, Nat.reduceAdd, Nat.reduceEqDiff, Nat.reduceLeDiff, ↓reduceIte, and_self, reduceCtorEq, Nat.succ_ne_self, nlS_1]⟩, ⟨by simp only; omega, by simp only; omega, by simp at hl; simp; omega, by simpa using hinv⟩, by simp only; omega⟩
        · rw [nlS_p h0, nlM_p h0, nlN_p h0]
          simp (config := { maxSteps := 1000000 }) only [gGetIntR, unB_bytes, capB, drop_bys, Option.map_none, Int.le_refl, hlz, k1, k2, k4, tk, hb2, hq, tup3, w1, fz, c1, wi, and_self, Int.reduceBNe, lookF, again_n, reduceCtorEq, Nat.reduceEqDiff, Nat.reduceAdd, Nat.reduceSub, Nat.reduceLT, eq_self, decide_true,  true_and, List.getElem?_cons_zero, List.getElem?_cons_succ, List.length_cons, List.length_nil, List.append_nil, List.nil_append, List.take_succ_cons, List.take_zero, List.drop_succ_cons, List.drop_zero, List.take_nil, List.drop_nil, List.map_cons, List.map_nil, Nat.zero_add, Nat.add_zero, den_nil, den_o0, ↓gd_tt, ↓gd_ft, den_o1, kont_app, den_skip, den_reg, den_seq, den_cond, den_block, den_b, ↓reduceIte, ↓e_bslice, ↓e_slcS, ↓e_ext, ↓e_app, ↓e_mv, ↓e_bin, ↓e_call, ↓u_onOpt0, ↓u_onOpt1, ↓u_binV, ↓u_srcOf, ↓u_srcSl, ↓binI, ↓fillE, Opd.ev, Sx.get, put, putO, del, dels, rd, rm, splice, SV.cells?, SV.one, ↓u_callS, canLW, canV, canC, belowL, apH, apH1, SV.ren, SV.renL, newOwn, targets, rms, Kind.isOwn, len_ints, Nat.le_refl, take_ints, len_bytes, Int.toNat_natCast, Nat.mul_one]
          rw [ha]
          exact ⟨by omega, by omega, (i + 1, z + q, l ++ [x]), ⟨[(0, 0), (3, 0)], by simp [EntM, compat, apartM, keysBelow, eta, idHs, rd, Option.getD_some, List.length_cons, List.length_nil, Nat.zero_add, Nat.add_zero, Nat.reduceAdd, Nat.reduceLeDiff, ↓reduceIte, Kind.isOwn, List.take_succ_cons, List.take_zero, List.nil_append, and_self, true_and, exists_eq_left', Option.some.injEq, List.drop_zero, ne_eq, not_false_eq_true, implies_true, List.not_mem_nil, Bool.false_or, Bool.true_or, forall_const, reduceCtorEq, List.mem_cons, or_false, forall_eq, ren_bytes, len_bytes, take_bytes, nlM_1, nlN_1, ren_ints], by simp [frEnt, geto, eta, SV.ren, Option.getD_some, List.length_cons, List.length_nil, Nat.zero_add, Nat.add_zero, Nat.reduceAdd, Nat.reduceEqDiff, Nat.reduceLeDiff, ↓reduceIte, and_self, reduceCtorEq, Nat.succ_ne_self, nlS_1]⟩, ⟨by simp only; omega, by simp only; omega, by simp; omega, hinv⟩, by simp only; omega⟩
      · have hbb : (e != 0) = true := by simpa using hee
        rw [rdN_err (by rw [hq]; exact hee)] at hinv
        rw [hq] at hinv
        rcases Nat.eq_zero_or_pos l.length with h0 | h0
        · rw [nlS_z h0, nlM_z h0, nlN_z h0]
          simp (config := { maxSteps := 1000000 }) only [gGetIntR, unB_bytes, capB, drop_bys, Option.map_none, Int.le_refl, hlz, k1, k2, k4, tk, hb2, hq, tup3, fz, c1, hbb, hinv, and_self, lookF, again_r, reduceCtorEq, Nat.reduceEqDiff, Nat.reduceSub, Nat.reduceLT, eq_self, decide_true, Int.cast_ofNat_Int,  true_and, and_true, List.getElem?_cons_zero, List.getElem?_cons_succ, List.length_cons, List.length_nil, List.append_nil, List.nil_append, List.map_cons, List.map_nil, Nat.zero_add, Nat.add_zero, den_nil, den_o0, ↓gd_tt, den_o1, kont_app, den_skip, den_reg, den_seq, den_cond, den_block, den_ret, den_rb, den_rc, finE_r, ↓reduceIte, ↓e_slcS, ↓e_ext, ↓e_mv, ↓e_bin, ↓e_call, ↓u_onOpt0, ↓u_onOpt1, ↓u_binV, ↓binI, ↓evRes, Opd.ev, Sx.get, put, putO, del, dels, rd, retOf, ↓u_callS, canLW, canV, canC, belowL, apH, apH1, SV.ren, SV.renL, newOwn, targets, rms, Kind.isOwn, Nat.le_refl, nlS_0, nlM_0, nlN_0, len_bytes, Int.toNat_natCast, Nat.mul_one, Int.cast_ofNat_Int]
          exact ⟨[(0, 0)], rfl, by simp [compat, apartM, keysBelow, idHs, List.take_succ_cons, List.nil_append, List.take_nil, and_self]⟩
        · rw [nlS_p h0, nlM_p h0, nlN_p h0]
          simp (config := { maxSteps := 1000000 }) only [gGetIntR, unB_bytes, capB, drop_bys, Option.map_none, Int.le_refl, hlz, k1, k2, k4, tk, hb2, hq, tup3, fz, c1, hbb, hinv, and_self, lookF, again_r, reduceCtorEq, Nat.reduceEqDiff, Nat.reduceAdd, Nat.reduceSub, Nat.reduceLT, eq_self, decide_true, Int.cast_ofNat_Int,  true_and, and_true, List.getElem?_cons_zero, List.getElem?_cons_succ, List.length_cons, List.length_nil, List.append_nil, List.nil_append, List.map_cons, List.map_nil, Nat.zero_add, Nat.add_zero, den_nil, den_o0, ↓gd_tt, den_o1, kont_app, den_skip, den_reg, den_seq, den_cond, den_block, den_ret, den_rb, den_rc, finE_r, ↓reduceIte, ↓e_slcS, ↓e_ext, ↓e_mv, ↓e_bin, ↓e_call, ↓u_onOpt0, ↓u_onOpt1, ↓u_binV, ↓binI, ↓evRes, Opd.ev, Sx.get, put, putO, del, dels, rd, retOf, ↓u_callS, canLW, canV, canC, belowL, apH, apH1, SV.ren, SV.renL, newOwn, targets, rms, Kind.isOwn, Nat.le_refl, nlS_0, nlM_0, nlN_0, len_bytes, Int.toNat_natCast, Nat.mul_one, Int.cast_ofNat_Int]
          exact ⟨[(0, 0)], rfl, by simp [compat, apartM, keysBelow, idHs, List.take_succ_cons, List.nil_append, List.take_nil, and_self]⟩
    · obtain rfl : i = n := by omega
      rw [Nat.sub_self, rdN_zero] at hinv
      have c1 : ¬ (i : Int) < (i : Int) := by omega
      rw [hinv]
      rcases Nat.eq_zero_or_pos l.length with h0 | h0
      · rw [nlS_z h0, nlM_z h0, nlN_z h0]
        simp (config := { maxSteps := 1000000 }) only [c1, nlM_z h0, again_x, reduceCtorEq, Nat.reduceEqDiff, eq_self, decide_false,  true_and, and_true, den_nil, den_o0, ↓gd_ft, den_o1, kont_app, den_reg, den_seq, den_cond, den_exit, den_ret, den_xb, den_xc, finE_r, ↓reduceIte, ↓e_mv, ↓e_bin, ↓u_binV, ↓binI, ↓evRes, Opd.ev, Sx.get, put, putO, del, dels, retOf, SV.ren, SV.renL]
        exact ⟨[(0, 0)], rfl, by simp [compat, apartM, keysBelow, idHs, List.take_succ_cons, List.nil_append, List.take_nil, and_self]⟩
      · rw [nlS_p h0, nlM_p h0, nlN_p h0]
        simp (config := { maxSteps := 1000000 }) only [c1, nlM_p h0, List.cons.injEq, SV.tup.injEq, again_x, reduceCtorEq, Nat.reduceEqDiff, Nat.reduceAdd, eq_self, decide_false,  true_and, and_true, Nat.add_zero, den_nil, den_o0, ↓gd_ft, den_o1, kont_app, den_reg, den_seq, den_cond, den_exit, den_ret, den_xb, den_xc, finE_r, ↓reduceIte, ↓e_mv, ↓e_bin, ↓u_binV, ↓binI, ↓evRes, Opd.ev, Sx.get, put, putO, del, dels, retOf, eta, SV.ren, SV.renL]
        exact ⟨[(0, 0), (1, 0)], by simp [EntM, compat, apartM, keysBelow, eta, idHs, rd, Option.getD_some, List.length_cons, List.length_nil, Nat.zero_add, Nat.add_zero, Nat.reduceAdd, Nat.reduceLeDiff, ↓reduceIte, Kind.isOwn, List.take_succ_cons, List.take_zero, List.nil_append, and_self, true_and, exists_eq_left', Option.some.injEq, ne_eq, implies_true, List.not_mem_nil, Bool.true_or, forall_const, ren_ints], by simp [Option.getD_some, List.length_cons, List.length_nil, Nat.zero_add, Nat.add_zero, Nat.reduceAdd, Nat.reduceLeDiff]⟩
  · have he' : (cntE b 1 != 0) = true := by simpa using he
    have hS : intsS b = ([], 0, cntE b 1) := by unfold intsS; rw [if_pos he]
    have hc : ∃ n u, cntR b 1 = (n, u, cntE b 1) := ⟨0, 0, by unfold cntR; rw [if_pos he]⟩
    obtain ⟨n, u, hc⟩ := hc
    rw [hc] at g1
    rw [hS]
    simp (config := { maxSteps := 1000000 }) only [tabU, ↓g1, fl, tup3, he', and_self, lookF, reduceCtorEq, Nat.reduceEqDiff, Nat.reduceSub, Nat.reduceLT, eq_self, Int.cast_ofNat_Int,  true_and, and_true, List.getElem?_cons_zero, List.getElem?_cons_succ, List.length_cons, List.length_nil, List.append_nil, List.nil_append, List.drop_zero, List.map_cons, List.map_nil, Nat.zero_add, Nat.add_zero, frOf, den_nil, den_o0, ↓gd_tt, den_o1, kont_app, den_reg, den_seq, den_cond, den_ret, den_rc, finE_r, ↓reduceIte, ↓e_ext, ↓e_mv, ↓e_bin, ↓e_call, ↓u_binV, ↓binI, ↓evRes, Opd.ev, Sx.get, put, putO, del, dels, rd, retOf, ↓u_callS, canLW, canV, canC, belowL, apH, apH1, SV.ren, SV.renL, newOwn, targets, rms, Kind.isOwn, Nat.le_refl, take_bytes, nlS_0, nlM_0, nlN_0, len_bytes, Nat.mul_one, Int.cast_ofNat_Int]
    exact ⟨[(0, 0)], rfl, by simp [compat, apartM, keysBelow, idHs, List.take_succ_cons, List.nil_append, List.take_nil, and_self]⟩
def gGetInts : GS
  | [.slc 0 0 1 len none], [(0, ⟨.view, cells⟩)] => match unB cells with
    | some b => if len = b.length ∧ b.length ≤ 2 ^ 36 then some (rI 1 (intsS b), nlM 1 3 (ints (intsS b).1) [] (intsS b).1.length, nlN 1 (intsS b).1.length) else none
    | none => none
  | _, _ => none
theorem gGetInts_ok {f : FuncId} (h : ∀ b : List UInt8, b.length ≤ 2 ^ 36 → Fun Tryd.prog tS f [.slc 0 0 1 b.length none] [(0, ⟨.view, bys b⟩)] 1 (rI 1 (intsS b)) (nlM 1 3 (ints (intsS b).1) [] (intsS b).1.length) (nlN 1 (intsS b).1.length)) : FunS Tryd.prog tS f gGetInts := by
  intro a0 m0 r m1 n1 hr
  unfold gGetInts at hr
  split at hr
  · split at hr
    · rename_i b hb
      split at hr
      · rename_i hc
        obtain ⟨rfl, h1⟩ := hc
        cases hr
        rw [unB_some hb]
        refine ⟨h b h1, ?_⟩
        cases (intsS b).1.length with
        | zero => trivial
        | succ k => exact ⟨.inl (Nat.le_refl _), trivial⟩
      · cases hr
    · cases hr
  · cases hr
end Go.Proofs.YtkfbkooobfepeaaDoor

/- The reader of package custodian. -/
namespace Go.Proofs.YtkfbkooobfepeaaDoor
open Go Go.Sx Sf
set_option maxRecDepth 100000
set_option linter.unusedVariables false
variable {tS : List (Nat × List SV)}
def rdB (o len : Nat) (e : Int) : Blk := ⟨.own 68, [.slc 1 o 1 len none, .int .i64 e]⟩
theorem f44 (b : List UInt8) (n : Nat) (e0 e : Int) (hb : b.length ≤ 2 ^ 36) (hn : n ≤ b.length) :
    (e0 = 0 → e = 0 → Fun Tryd.prog tS 44 [.ptr 0 0, .int .i64 (n : Int), .int .i64 e] [(0, rdB 0 b.length e0), (1, ⟨.view, bys b⟩)] 2 (.bool true) [(0, rdB n (b.length - n) 0)] 2) ∧
    (e0 = 0 → e ≠ 0 → Fun Tryd.prog tS 44 [.ptr 0 0, .int .i64 (n : Int), .int .i64 e] [(0, rdB 0 b.length e0), (1, ⟨.view, bys b⟩)] 2 (.bool false) [(0, rdB 0 b.length e)] 2) ∧
    (e0 ≠ 0 → Fun Tryd.prog tS 44 [.ptr 0 0, .int .i64 (n : Int), .int .i64 e] [(0, rdB 0 b.length e0), (1, ⟨.view, bys b⟩)] 2 (.bool false) [(0, rdB 0 b.length e0)] 2) := by
  have k1 : (0 : Int) ≤ (n : Int) := by omega
  have k2 : (n : Int) ≤ (b.length : Int) := by omega
  refine ⟨?_, ?_, ?_⟩
  · rintro rfl rfl
    refine fun_any none cF cF_ok chk44 (show 3 ≤ 30 by decide) (by decide) ?_
    unfold sf44 rdB
    simp (config := { maxSteps := 1000000 }) only [k1, k2, Option.map_none, Int.le_refl, beq_self_eq_true, Int.reduceBNe, reduceCtorEq, Nat.reduceEqDiff, Nat.reduceAdd, Nat.reduceLeDiff, eq_self,  true_and, and_true, List.getElem?_cons_zero, List.getElem?_cons_succ, List.length_cons, List.length_nil, List.append_nil, List.nil_append, List.cons_append, List.take_succ_cons, List.take_zero, List.drop_succ_cons, List.drop_zero, List.drop_nil, List.map_cons, List.map_nil, Nat.zero_add, Nat.add_zero, frOf, den_nil, den_o0, ↓gd_tt, ↓gd_ft, den_o1, kont_app, den_skip, den_reg, den_seq, den_cond, den_ret, finE_r, ↓reduceIte, ↓e_load, ↓e_store, ↓e_slcS, ↓e_mv, ↓e_nilc, ↓e_fld, ↓e_bin, ↓u_onOpt0, ↓u_onOpt1, ↓u_binV, ↓binI, ↓evRes, Opd.ev, Sx.get, put, putO, del, dels, rd, upd, splice, SV.cells?, SV.one, retOf, SV.ren, Nat.le_refl, len_bytes, Int.toNat_natCast, Nat.mul_one]
    exact ⟨[(0, 0), (1, 0)], by simp [EntM, compat, apartM, keysBelow, eta, idHs, rd, SV.ren, SV.renL, Option.getD_some, List.length_cons, List.length_nil, Nat.zero_add, Nat.add_zero, Nat.reduceAdd, Nat.reduceLeDiff, ↓reduceIte, Kind.isOwn, List.take_succ_cons, List.nil_append, List.cons_append, List.take_nil, and_self, true_and, exists_eq_left', Option.some.injEq, ne_eq, implies_true, List.not_mem_nil, Bool.true_or, forall_const]⟩
  · rintro rfl he
    have h1 : (e == 0) = false := by simpa using he
    have h2 : (e != 0) = true := by simpa using he
    refine fun_any none cF cF_ok chk44 (show 3 ≤ 30 by decide) (by decide) ?_
    unfold sf44 rdB
    simp (config := { maxSteps := 1000000 }) only [h2, beq_self_eq_true, reduceCtorEq, Nat.reduceEqDiff, Nat.reduceAdd, eq_self,  true_and, and_true, List.getElem?_cons_zero, List.getElem?_cons_succ, List.length_cons, List.length_nil, List.append_nil, List.nil_append, List.cons_append, List.take_succ_cons, List.take_zero, List.drop_succ_cons, List.drop_nil, List.map_cons, List.map_nil, Nat.zero_add, frOf, den_nil, den_o0, ↓gd_tt, den_o1, kont_app, den_reg, den_seq, den_cond, den_ret, den_rc, finE_r, ↓reduceIte, ↓e_load, ↓e_store, ↓e_mv, ↓e_nilc, ↓e_fld, ↓e_bin, ↓u_binV, ↓binI, ↓evRes, Opd.ev, Sx.get, put, putO, del, dels, rd, upd, splice, SV.cells?, SV.one, retOf, SV.ren, Nat.le_refl]
    exact ⟨[(0, 0), (1, 0)], by simp [EntM, compat, apartM, keysBelow, eta, idHs, rd, SV.ren, SV.renL, Option.getD_some, List.length_cons, List.length_nil, Nat.zero_add, Nat.add_zero, Nat.reduceAdd, Nat.reduceLeDiff, ↓reduceIte, Kind.isOwn, List.take_succ_cons, List.nil_append, List.cons_append, List.take_nil, and_self, true_and, exists_eq_left', Option.some.injEq, ne_eq, implies_true, List.not_mem_nil, Bool.true_or, forall_const]⟩
  · intro he
    have h1 : (e0 == 0) = false := by simpa using he
    have h2 : (e0 != 0) = true := by simpa using he
    refine fun_any none cF cF_ok chk44 (show 3 ≤ 30 by decide) (by decide) ?_
    unfold sf44 rdB
    simp (config := { maxSteps := 1000000 }) only [h1, h2, reduceCtorEq, Nat.reduceEqDiff, Nat.reduceAdd, eq_self,  true_and, and_true, List.getElem?_cons_zero, List.getElem?_cons_succ, Nat.zero_add, frOf, den_nil, den_o0, ↓gd_tt, ↓gd_ft, den_o1, kont_app, den_skip, den_reg, den_seq, den_cond, den_ret, den_rc, finE_r, ↓reduceIte, ↓e_load, ↓e_mv, ↓e_nilc, ↓e_fld, ↓e_bin, ↓u_binV, ↓binI, ↓evRes, Opd.ev, Sx.get, put, putO, del, dels, rd, retOf, SV.ren]
    exact ⟨[(0, 0), (1, 0)], by simp [EntM, compat, apartM, keysBelow, eta, idHs, rd, SV.ren, SV.renL, Option.getD_some, List.length_cons, List.length_nil, Nat.zero_add, Nat.add_zero, Nat.reduceAdd, Nat.reduceLeDiff, ↓reduceIte, Kind.isOwn, List.take_succ_cons, List.nil_append, List.cons_append, List.take_nil, and_self, true_and, exists_eq_left', Option.some.injEq, ne_eq, implies_true, List.not_mem_nil, Bool.true_or, forall_const]⟩
def gDone : GS
  | [.ptr 0 0, .int .i64 z, .int .i64 e], [(0, ⟨.own 68, [.slc 1 0 1 len none, .int .i64 e0]⟩), (1, ⟨.view, cells⟩)] => match unB cells with
    | some b => if len = b.length ∧ b.length ≤ 2 ^ 36 ∧ z.toNat ≤ b.length ∧ z = (z.toNat : Int) then
        (if e0 = 0 then (if e = 0 then some (.bool true, [(0, rdB z.toNat (b.length - z.toNat) 0)], 2) else some (.bool false, [(0, rdB 0 b.length e)], 2)) else some (.bool false, [(0, rdB 0 b.length e0)], 2)) else none
    | none => none
  | _, _ => none
theorem gDone_ok : FunS Tryd.prog tS 44 gDone := by
  intro a0 m0 r m1 n1 hr
  unfold gDone at hr
  split at hr
  · rename_i z e len e0 cells
    split at hr
    · rename_i b hb
      split at hr
      · rename_i hc
        obtain ⟨rfl, h1, h2, h3⟩ := hc
        rw [unB_some hb]
        obtain ⟨F1, F2, F3⟩ := f44 (tS := tS) b z.toNat e0 e h1 h2
        rw [← h3] at F1 F2 F3
        have hf : ∀ B : Blk, freshB 2 [(0, (⟨.own 68, [.slc 1 0 1 b.length none, .int .i64 e0]⟩ : Blk)), (1, ⟨.view, bys b⟩)] [(0, B)] := fun B => ⟨.inr ⟨_, List.mem_cons_self, own_of rfl⟩, trivial⟩
        split at hr
        · rename_i h0
          split at hr
          · rename_i h4; cases hr; exact ⟨F1 h0 h4, hf _⟩
          · rename_i h4; cases hr; exact ⟨F2 h0 h4, hf _⟩
        · rename_i h0; cases hr; exact ⟨F3 h0, hf _⟩
      · cases hr
    · cases hr
  · cases hr
end Go.Proofs.YtkfbkooobfepeaaDoor

/- The reader of package custodian: the parts of a member. -/
namespace Go.Proofs.YtkfbkooobfepeaaDoor
open Go Go.Sx Sf
set_option maxRecDepth 100000
set_option linter.unusedVariables false
variable {tS : List (Nat × List SV)}
theorem splice_at (A P X Y Q B : List SV) (o : Nat) (ho : o = A.length + P.length) (hxy : X.length = Y.length) : splice (A ++ (P ++ (X ++ Q)) ++ B) o Y = A ++ (P ++ (Y ++ Q)) ++ B := by
  unfold splice
  subst ho
  have h1 : A ++ (P ++ (X ++ Q)) ++ B = (A ++ P) ++ (X ++ (Q ++ B)) := by simp
  have h2 : A.length + P.length = (A ++ P).length := by simp
  rw [h1, h2, List.take_left' rfl, ← List.drop_drop, List.drop_left' rfl, ← hxy, List.drop_left' rfl]
  simp
theorem mcs_split {ms : List Mb} {i : Nat} {m : Mb} (h : ms[i]? = some m) : mcs ms = mcs (ms.take i) ++ m.sv ++ mcs (ms.drop (i + 1)) := by
  have hi := (List.getElem?_eq_some_iff.1 h).1
  conv => lhs; rw [← List.take_append_drop i ms, List.drop_eq_getElem_cons hi]
  rw [mcs_app]
  rw [List.getElem?_eq_getElem hi] at h
  cases h
  simp [mcs]
theorem mcs_set {ms : List Mb} {i : Nat} {m m' : Mb} (h : ms[i]? = some m) : mcs (ms.set i m') = mcs (ms.take i) ++ m'.sv ++ mcs (ms.drop (i + 1)) := by
  have hi := (List.getElem?_eq_some_iff.1 h).1
  have h' : (ms.set i m')[i]? = some m' := by simp [hi]
  rw [mcs_split h', List.take_set_of_le (Nat.le_refl i), List.drop_set_of_lt (by omega)]
theorem sp1 (a b c : SV) : splice [a, b] 1 [c] = [a, c] := (rfl)
theorem sp0 (a b c : SV) : splice [a, b] 0 [c] = [c, b] := (rfl)
theorem Pub.take {l : List Mb} (h : Pub l) (i : Nat) : Pub (l.take i) := fun m hm => h m (List.mem_of_mem_take hm)
theorem mcs_take_len {ms : List Mb} {i : Nat} (hP : Pub ms) (hi : i ≤ ms.length) : (mcs (ms.take i)).length = i * 18 := by
  rw [len_mcs (hP.take i), List.length_take, Nat.min_eq_left hi]
theorem put_name {ms : List Mb} {i : Nat} {m : Mb} (hP : Pub ms) (h : ms[i]? = some m) (s : List UInt8) : splice (mcs ms) (i * 18) [.str s] = mcs (ms.set i { m with name := s }) := by
  have hi := (List.getElem?_eq_some_iff.1 h).1
  rw [mcs_set h, mcs_split h]
  exact splice_at _ [] [.str m.name] [.str s] (bys m.pub ++ [.int .i64 m.h]) _ _ (by rw [mcs_take_len (i := i) hP (by omega), List.length_nil, Nat.add_zero]) rfl
theorem put_pub {ms : List Mb} {i : Nat} {m : Mb} (hP : Pub ms) (h : ms[i]? = some m) (p : List UInt8) (hp : p.length = 16) : splice (mcs ms) (i * 18 + 1) (bys p) = mcs (ms.set i { m with pub := p }) := by
  have hi := (List.getElem?_eq_some_iff.1 h).1
  rw [mcs_set h, mcs_split h]
  exact splice_at _ [.str m.name] (bys m.pub) (bys p) [.int .i64 m.h] _ _ (by rw [mcs_take_len (i := i) hP (by omega)]; rfl) (by rw [len_bytes, len_bytes, hp, hP m (List.mem_of_getElem? h)])
theorem put_h {ms : List Mb} {i : Nat} {m : Mb} (hP : Pub ms) (h : ms[i]? = some m) (x : Int) : splice (mcs ms) (i * 18 + 17) [.int .i64 x] = mcs (ms.set i { m with h := x }) := by
  have hi := (List.getElem?_eq_some_iff.1 h).1
  have h16 := hP m (List.mem_of_getElem? h)
  rw [mcs_set h, mcs_split h]
  have := splice_at (mcs (ms.take i)) (.str m.name :: bys m.pub) [.int .i64 m.h] [.int .i64 x] [] (mcs (ms.drop (i + 1))) (i * 18 + 17) (by rw [mcs_take_len (i := i) hP (by omega), List.length_cons, len_bytes, h16]) rfl
  simpa [Mb.sv] using this
theorem Pub.set {ms : List Mb} {i : Nat} {m : Mb} (hP : Pub ms) (hm : m.pub.length = 16) : Pub (ms.set i m) := fun x hx => by
  rcases List.mem_or_eq_of_mem_set hx with h | h
  · exact hP x h
  · rw [h]; exact hm

structure RS where
  rest : List UInt8
  e : Int
  ms : List Mb
def RS.name (i : Nat) (m : Mb) (s : RS) : RS := if s.e ≠ 0 then s else if (bytS s.rest).2.2 ≠ 0 then { s with e := (bytS s.rest).2.2 } else ⟨s.rest.drop (bytS s.rest).2.1, 0, s.ms.set i { m with name := (bytS s.rest).1 }⟩
def RS.pub (i : Nat) (m : Mb) (s : RS) : RS := if s.e ≠ 0 then s else if s.rest.length < 16 then { s with e := 5 } else ⟨s.rest.drop 16, 0, s.ms.set i { m with pub := s.rest.take 16 }⟩
def RS.height (i : Nat) (m : Mb) (s : RS) : RS := if s.e ≠ 0 then s else if (decS s.rest).2.2 ≠ 0 then { s with e := (decS s.rest).2.2 } else ⟨s.rest.drop (decS s.rest).2.1, 0, s.ms.set i { m with h := (decS s.rest).1 }⟩
def RS.mem (b : List UInt8) (t : RS) : Mem := [(0, rdB (b.length - t.rest.length) t.rest.length t.e), (2, ⟨.own 47, mcs t.ms⟩)]
def RS.mem0 (s : RS) : Mem := [(0, rdB 0 s.rest.length s.e), (1, ⟨.view, bys s.rest⟩), (2, ⟨.own 47, mcs s.ms⟩)]
theorem byt_err {b : List UInt8} {s : List UInt8} {u : Nat} {e : Int} (h : bytS b = (s, u, e)) : (e = 0 ∧ u ≤ b.length ∧ 0 < u) ∨ (e ≠ 0 ∧ u = 0) := by
  unfold bytS at h
  by_cases he : cntE b 1 = 0
  · rw [if_neg (by simpa using he)] at h
    obtain ⟨n, q, hx, h1, h2, h3⟩ := cnt_ok he
    rw [hx] at h
    simp only [Prod.mk.injEq, Int.toNat_natCast] at h
    rw [Nat.div_one] at h2
    obtain ⟨_, rfl, rfl⟩ := h
    exact .inl ⟨rfl, by omega, by omega⟩
  · rw [if_pos he] at h
    simp only [Prod.mk.injEq] at h
    obtain ⟨_, rfl, rfl⟩ := h
    exact .inr ⟨he, rfl⟩
def tabV : List (FuncId × GS) := [(44, gDone), (59, gGetInt), (60, gGetBytes)]
theorem tabV_ok : ∀ x ∈ tabV, FunS Tryd.prog tS x.1 x.2 := by
  intro x hx
  simp only [tabV, List.mem_cons, List.not_mem_nil, or_false] at hx
  rcases hx with rfl | rfl | rfl
  · exact gDone_ok
  · exact gGetInt_ok
  · exact gGetBytes_ok f60
theorem gDone_eq {b : List UInt8} {z : Nat} {e0 e : Int} (hb : b.length ≤ 2 ^ 36) (hz : z ≤ b.length) : gDone [.ptr 0 0, .int .i64 (z : Int), .int .i64 e] [(0, ⟨.own 68, [.slc 1 0 1 b.length none, .int .i64 e0]⟩), (1, ⟨.view, bys b⟩)] =
    if e0 = 0 then (if e = 0 then some (.bool true, [(0, rdB z (b.length - z) 0)], 2) else some (.bool false, [(0, rdB 0 b.length e)], 2)) else some (.bool false, [(0, rdB 0 b.length e0)], 2) := by
  unfold gDone
  simp only [unB_bytes, Int.toNat_natCast, hb, hz, and_self, if_true]
set_option maxHeartbeats 4000000 in
theorem f45 (s : RS) (i : Nat) (m : Mb) (hb : s.rest.length ≤ 2 ^ 36) (hP : Pub s.ms) (hm : s.ms[i]? = some m) :
    Fun Tryd.prog tS 45 [.ptr 0 0, .ptr 2 (i * 18)] s.mem0 3 (.tup []) ((s.name i m).mem s.rest) 3 := by
  refine fun_any none (callS tabV cF) (callS_ok tabV_ok cF_ok) chk45 (show 2 ≤ 24 by decide) (by decide) ?_
  unfold sf45 RS.mem0 rdB
  obtain ⟨b, e0, ms⟩ := s
  simp only at hb hP hm
  have hb40 : b.length ≤ 2 ^ 40 := by omega
  have fl := flat_bytes b
  rcases hx : bytS b with ⟨t, u, e⟩
  have hu : u ≤ b.length := by rcases byt_err hx with ⟨_, h, _⟩ | ⟨_, h⟩ <;> omega
  have g1 := fun (e0 e : Int) => gDone_eq (z := u) (e0 := e0) (e := e) hb hu
  have hlen := len_mcs hP
  have hi := (List.getElem?_eq_some_iff.1 hm).1
  have hpn := put_name hP hm t
  have hss : b.length - (b.length - u) = u := by omega
  have hdl2 : (b.drop u).length = b.length - u := by simp
  by_cases h0 : e0 = 0
  · subst h0
    by_cases he : e = 0
    · subst he
      have hS : RS.name i m ⟨b, 0, ms⟩ = ⟨b.drop u, 0, ms.set i { m with name := t }⟩ := by simp [RS.name, hx]
      rw [hS]
      have g2 := g1 0 0
      simp only [if_true] at g2
      have hlm : i * 18 + 1 ≤ ms.length * 18 := by omega
      simp (config := { maxSteps := 1000000 }) only [tabV, gGetBytes, unB_bytes, hb40, fl, hx, tupB, ↓g2, rdB, hlen, hlm, hpn, SV.flatL, SV.flat, Bool.and_true, Bool.and_self, and_self, lookF, reduceCtorEq, Nat.reduceEqDiff, Nat.reduceAdd, Nat.reduceSub, Nat.reduceLT, true_imp_iff, eq_self,  true_and, and_true, List.getElem?_cons_zero, List.getElem?_cons_succ, List.length_cons, List.length_nil, List.append_nil, List.nil_append, List.cons_append, List.drop_zero, List.map_cons, List.map_nil, Nat.zero_add, Nat.add_zero, frOf, den_nil, den_o0, ↓gd_tt, den_o1, kont_app, den_reg, Bool.or_false, den_seq, den_cond, finE_n, ↓reduceIte, ↓e_load, ↓e_store, ↓e_ext, ↓e_mv, ↓e_nilc, ↓e_fld, ↓e_call, ↓evRes, Opd.ev, Sx.get, put, putO, del, dels, rd, rm, upd, SV.cells?, SV.one, retOf, ↓u_callS, canLW, canV, canC, belowL, apH, apH1, eta, SV.ren, SV.renL, newOwn, targets, rms, Kind.isOwn, Option.getD_some, Nat.le_refl, take_bytes, len_bytes, Nat.mul_one]
      exact ⟨by decide, [(0, 0), (1, 0), (2, 0)], by simp only [RS.mem, rdB, hdl2, hss, ren_mcs, EntM, compat, apartM, keysBelow, eta, idHs, rd, SV.ren, SV.renL, Option.getD_some, List.getElem?_cons_zero, List.getElem?_cons_succ, List.length_cons, List.length_nil, Nat.zero_add, Nat.add_zero, Nat.reduceAdd, Nat.reduceSub, Nat.reduceEqDiff, Nat.reduceLT, ↓reduceIte, Kind.isOwn, List.take_succ_cons, List.nil_append, List.cons_append, List.take_nil, and_self, true_and, exists_eq_left', Option.some.injEq, Nat.le_refl, ne_eq, not_false_eq_true, implies_true, List.not_mem_nil, false_imp_iff, Bool.true_or, forall_const, reduceCtorEq, List.mem_cons, or_false, forall_eq]⟩
    · have hS : RS.name i m ⟨b, 0, ms⟩ = ⟨b, e, ms⟩ := by simp [RS.name, hx, he]
      rw [hS]
      have g2 := g1 0 e
      simp only [if_true, he, if_false] at g2
      simp (config := { maxSteps := 1000000 }) only [tabV, gGetBytes, unB_bytes, hb40, fl, hx, tupB, ↓g2, rdB, SV.flatL, SV.flat, Bool.and_true, Bool.and_self, and_self, lookF, reduceCtorEq, Nat.reduceEqDiff, Nat.reduceAdd, Nat.reduceSub, Nat.reduceLT, true_imp_iff, eq_self,  true_and, and_true, List.getElem?_cons_zero, List.getElem?_cons_succ, List.length_cons, List.length_nil, List.append_nil, List.nil_append, List.cons_append, List.drop_zero, List.map_cons, List.map_nil, Nat.zero_add, Nat.add_zero, frOf, den_nil, den_o0, ↓gd_ft, den_o1, kont_app, den_skip, den_reg, Bool.or_false, den_seq, den_cond, finE_n, ↓reduceIte, ↓e_load, ↓e_ext, ↓e_mv, ↓e_nilc, ↓e_fld, ↓e_call, ↓evRes, Opd.ev, Sx.get, put, putO, del, dels, rd, rm, retOf, ↓u_callS, canLW, canV, canC, belowL, apH, apH1, eta, SV.ren, SV.renL, newOwn, targets, rms, Kind.isOwn, Option.getD_some, Nat.le_refl, take_bytes, len_bytes, Nat.mul_one]
      exact ⟨by decide, [(0, 0), (1, 0), (2, 0)], by simp only [RS.mem, rdB, Nat.sub_self, ren_mcs, EntM, compat, apartM, keysBelow, eta, idHs, rd, SV.ren, SV.renL, Option.getD_some, List.getElem?_cons_zero, List.getElem?_cons_succ, List.length_cons, List.length_nil, Nat.zero_add, Nat.add_zero, Nat.reduceAdd, Nat.reduceSub, Nat.reduceEqDiff, Nat.reduceLT, ↓reduceIte, Kind.isOwn, List.take_succ_cons, List.nil_append, List.cons_append, List.take_nil, and_self, true_and, exists_eq_left', Option.some.injEq, Nat.le_refl, ne_eq, not_false_eq_true, implies_true, List.not_mem_nil, false_imp_iff, Bool.true_or, forall_const, reduceCtorEq, List.mem_cons, or_false, forall_eq]⟩
  · have hS : RS.name i m ⟨b, e0, ms⟩ = ⟨b, e0, ms⟩ := by simp [RS.name, h0]
    rw [hS]
    have g2 := g1 e0 e
    simp only [h0, if_false] at g2
    simp (config := { maxSteps := 1000000 }) only [tabV, gGetBytes, unB_bytes, hb40, fl, hx, tupB, ↓g2, rdB, SV.flatL, SV.flat, Bool.and_true, Bool.and_self, and_self, lookF, reduceCtorEq, Nat.reduceEqDiff, Nat.reduceAdd, Nat.reduceSub, Nat.reduceLT, true_imp_iff, eq_self,  true_and, and_true, List.getElem?_cons_zero, List.getElem?_cons_succ, List.length_cons, List.length_nil, List.append_nil, List.nil_append, List.cons_append, List.drop_zero, List.map_cons, List.map_nil, Nat.zero_add, Nat.add_zero, frOf, den_nil, den_o0, ↓gd_ft, den_o1, kont_app, den_skip, den_reg, Bool.or_false, den_seq, den_cond, finE_n, ↓reduceIte, ↓e_load, ↓e_ext, ↓e_mv, ↓e_nilc, ↓e_fld, ↓e_call, ↓evRes, Opd.ev, Sx.get, put, putO, del, dels, rd, rm, retOf, ↓u_callS, canLW, canV, canC, belowL, apH, apH1, eta, SV.ren, SV.renL, newOwn, targets, rms, Kind.isOwn, Option.getD_some, Nat.le_refl, take_bytes, len_bytes, Nat.mul_one]
    exact ⟨by decide, [(0, 0), (1, 0), (2, 0)], by simp only [RS.mem, rdB, Nat.sub_self, ren_mcs, EntM, compat, apartM, keysBelow, eta, idHs, rd, SV.ren, SV.renL, Option.getD_some, List.getElem?_cons_zero, List.getElem?_cons_succ, List.length_cons, List.length_nil, Nat.zero_add, Nat.add_zero, Nat.reduceAdd, Nat.reduceSub, Nat.reduceEqDiff, Nat.reduceLT, ↓reduceIte, Kind.isOwn, List.take_succ_cons, List.nil_append, List.cons_append, List.take_nil, and_self, true_and, exists_eq_left', Option.some.injEq, Nat.le_refl, ne_eq, not_false_eq_true, implies_true, List.not_mem_nil, false_imp_iff, Bool.true_or, forall_const, reduceCtorEq, List.mem_cons, or_false, forall_eq]⟩
set_option maxHeartbeats 4000000 in
theorem f47 (s : RS) (i : Nat) (m : Mb) (hb : s.rest.length ≤ 2 ^ 36) (hP : Pub s.ms) (hm : s.ms[i]? = some m) :
    Fun Tryd.prog tS 47 [.ptr 0 0, .ptr 2 (i * 18)] s.mem0 3 (.tup []) ((s.height i m).mem s.rest) 3 := by
  refine fun_any none (callS tabV cF) (callS_ok tabV_ok cF_ok) chk47 (show 2 ≤ 24 by decide) (by decide) ?_
  unfold sf47 RS.mem0 rdB
  obtain ⟨b, e0, ms⟩ := s
  simp only at hb hP hm
  have hb40 : b.length ≤ 2 ^ 40 := by omega
  have fl := flat_bytes b
  rcases hx : decS b with ⟨t, u, e⟩
  have hu : u ≤ b.length := by rcases dec_err hx with ⟨_, _, h, _⟩ | ⟨_, _, h⟩ <;> omega
  have g1 := fun (e0 e : Int) => gDone_eq (z := u) (e0 := e0) (e := e) hb hu
  have hlen := len_mcs hP
  have hi := (List.getElem?_eq_some_iff.1 hm).1
  have hpn := put_h hP hm t
  have hss : b.length - (b.length - u) = u := by omega
  have hdl2 : (b.drop u).length = b.length - u := by simp
  by_cases h0 : e0 = 0
  · subst h0
    by_cases he : e = 0
    · subst he
      have hS : RS.height i m ⟨b, 0, ms⟩ = ⟨b.drop u, 0, ms.set i { m with h := t }⟩ := by simp [RS.height, hx]
      rw [hS]
      have g2 := g1 0 0
      simp only [if_true] at g2
      have hlm : i * 18 + 17 + 1 ≤ ms.length * 18 := by omega
      simp (config := { maxSteps := 1000000 }) only [tabV, gGetInt, unB_bytes, capB, hb40, fl, hx, tup3, ↓g2, rdB, hlen, hlm, hpn, SV.flatL, SV.flat, Bool.and_true, Bool.and_self, and_self, lookF, reduceCtorEq, Nat.reduceEqDiff, Nat.reduceAdd, Nat.reduceSub, Nat.reduceLT, true_imp_iff, eq_self,  true_and, and_true, List.getElem?_cons_zero, List.getElem?_cons_succ, List.length_cons, List.length_nil, List.append_nil, List.nil_append, List.cons_append, List.drop_zero, List.map_cons, List.map_nil, Nat.zero_add, Nat.add_zero, frOf, den_nil, den_o0, ↓gd_tt, den_o1, kont_app, den_reg, Bool.or_false, den_seq, den_cond, finE_n, ↓reduceIte, ↓e_load, ↓e_store, ↓e_ext, ↓e_mv, ↓e_nilc, ↓e_fld, ↓e_call, ↓evRes, Opd.ev, Sx.get, put, putO, del, dels, rd, rm, upd, SV.cells?, SV.one, retOf, ↓u_callS, canLW, canV, canC, belowL, apH, apH1, eta, SV.ren, SV.renL, newOwn, targets, rms, Kind.isOwn, Option.getD_some, Nat.le_refl, take_bytes, len_bytes, Nat.mul_one]
      exact ⟨by decide, [(0, 0), (1, 0), (2, 0)], by simp only [RS.mem, rdB, hdl2, hss, ren_mcs, EntM, compat, apartM, keysBelow, eta, idHs, rd, SV.ren, SV.renL, Option.getD_some, List.getElem?_cons_zero, List.getElem?_cons_succ, List.length_cons, List.length_nil, Nat.zero_add, Nat.add_zero, Nat.reduceAdd, Nat.reduceSub, Nat.reduceEqDiff, Nat.reduceLT, ↓reduceIte, Kind.isOwn, List.take_succ_cons, List.nil_append, List.cons_append, List.take_nil, and_self, true_and, exists_eq_left', Option.some.injEq, Nat.le_refl, ne_eq, not_false_eq_true, implies_true, List.not_mem_nil, false_imp_iff, Bool.true_or, forall_const, reduceCtorEq, List.mem_cons, or_false, forall_eq]⟩
    · have hS : RS.height i m ⟨b, 0, ms⟩ = ⟨b, e, ms⟩ := by simp [RS.height, hx, he]
      rw [hS]
      have g2 := g1 0 e
      simp only [if_true, he, if_false] at g2
      simp (config := { maxSteps := 1000000 }) only [tabV, gGetInt, unB_bytes, capB, hb40, fl, hx, tup3, ↓g2, rdB, SV.flatL, SV.flat, Bool.and_true, Bool.and_self, and_self, lookF, reduceCtorEq, Nat.reduceEqDiff, Nat.reduceAdd, Nat.reduceSub, Nat.reduceLT, true_imp_iff, eq_self,  true_and, and_true, List.getElem?_cons_zero, List.getElem?_cons_succ, List.length_cons, List.length_nil, List.append_nil, List.nil_append, List.cons_append, List.drop_zero, List.map_cons, List.map_nil, Nat.zero_add, Nat.add_zero, frOf, den_nil, den_o0, ↓gd_ft, den_o1, kont_app, den_skip, den_reg, Bool.or_false, den_seq, den_cond, finE_n, ↓reduceIte, ↓e_load, ↓e_ext, ↓e_mv, ↓e_nilc, ↓e_fld, ↓e_call, ↓evRes, Opd.ev, Sx.get, put, putO, del, dels, rd, rm, retOf, ↓u_callS, canLW, canV, canC, belowL, apH, apH1, eta, SV.ren, SV.renL, newOwn, targets, rms, Kind.isOwn, Option.getD_some, Nat.le_refl, take_bytes, len_bytes, Nat.mul_one]
      exact ⟨by decide, [(0, 0), (1, 0), (2, 0)], by simp only [RS.mem, rdB, Nat.sub_self, ren_mcs, EntM, compat, apartM, keysBelow, eta, idHs, rd, SV.ren, SV.renL, Option.getD_some, List.getElem?_cons_zero, List.getElem?_cons_succ, List.length_cons, List.length_nil, Nat.zero_add, Nat.add_zero, Nat.reduceAdd, Nat.reduceSub, Nat.reduceEqDiff, Nat.reduceLT, ↓reduceIte, Kind.isOwn, List.take_succ_cons, List.nil_append, List.cons_append, List.take_nil, and_self, true_and, exists_eq_left', Option.some.injEq, Nat.le_refl, ne_eq, not_false_eq_true, implies_true, List.not_mem_nil, false_imp_iff, Bool.true_or, forall_const, reduceCtorEq, List.mem_cons, or_false, forall_eq]⟩
  · have hS : RS.height i m ⟨b, e0, ms⟩ = ⟨b, e0, ms⟩ := by simp [RS.height, h0]
    rw [hS]
    have g2 := g1 e0 e
    simp only [h0, if_false] at g2
    simp (config := { maxSteps := 1000000 }) only [tabV, gGetInt, unB_bytes, capB, hb40, fl, hx, tup3, ↓g2, rdB, SV.flatL, SV.flat, Bool.and_true, Bool.and_self, and_self, lookF, reduceCtorEq, Nat.reduceEqDiff, Nat.reduceAdd, Nat.reduceSub, Nat.reduceLT, true_imp_iff, eq_self,  true_and, and_true, List.getElem?_cons_zero, List.getElem?_cons_succ, List.length_cons, List.length_nil, List.append_nil, List.nil_append, List.cons_append, List.drop_zero, List.map_cons, List.map_nil, Nat.zero_add, Nat.add_zero, frOf, den_nil, den_o0, ↓gd_ft, den_o1, kont_app, den_skip, den_reg, Bool.or_false, den_seq, den_cond, finE_n, ↓reduceIte, ↓e_load, ↓e_ext, ↓e_mv, ↓e_nilc, ↓e_fld, ↓e_call, ↓evRes, Opd.ev, Sx.get, put, putO, del, dels, rd, rm, retOf, ↓u_callS, canLW, canV, canC, belowL, apH, apH1, eta, SV.ren, SV.renL, newOwn, targets, rms, Kind.isOwn, Option.getD_some, Nat.le_refl, take_bytes, len_bytes, Nat.mul_one]
    exact ⟨by decide, [(0, 0), (1, 0), (2, 0)], by simp only [RS.mem, rdB, Nat.sub_self, ren_mcs, EntM, compat, apartM, keysBelow, eta, idHs, rd, SV.ren, SV.renL, Option.getD_some, List.getElem?_cons_zero, List.getElem?_cons_succ, List.length_cons, List.length_nil, Nat.zero_add, Nat.add_zero, Nat.reduceAdd, Nat.reduceSub, Nat.reduceEqDiff, Nat.reduceLT, ↓reduceIte, Kind.isOwn, List.take_succ_cons, List.nil_append, List.cons_append, List.take_nil, and_self, true_and, exists_eq_left', Option.some.injEq, Nat.le_refl, ne_eq, not_false_eq_true, implies_true, List.not_mem_nil, false_imp_iff, Bool.true_or, forall_const, reduceCtorEq, List.mem_cons, or_false, forall_eq]⟩
set_option maxHeartbeats 4000000 in
theorem f46 (s : RS) (i : Nat) (m : Mb) (hb : s.rest.length ≤ 2 ^ 36) (hP : Pub s.ms) (hm : s.ms[i]? = some m) :
    Fun Tryd.prog tS 46 [.ptr 0 0, .ptr 2 (i * 18)] s.mem0 3 (.tup []) ((s.pub i m).mem s.rest) 3 := by
  refine fun_any none cF cF_ok chk46 (show 2 ≤ 43 by decide) (by decide) ?_
  unfold sf46 RS.mem0 rdB
  obtain ⟨b, e0, ms⟩ := s
  simp only at hb hP hm
  have hbl := len_bytes b
  have hlen := len_mcs hP
  have hi := (List.getElem?_eq_some_iff.1 hm).1
  by_cases h0 : e0 = 0
  · subst h0
    by_cases h16 : b.length < 16
    · have hS : RS.pub i m ⟨b, 0, ms⟩ = ⟨b, 5, ms⟩ := by simp [RS.pub, h16]
      rw [hS]
      have c1 : (b.length : Int) < 16 := by omega
      simp (config := { maxSteps := 1000000 }) only [c1, sp1, beq_self_eq_true, Int.reduceBEq, setv, reduceCtorEq, Nat.reduceEqDiff, Nat.reduceAdd, eq_self, decide_true,  true_and, and_true, List.getElem?_cons_zero, List.getElem?_cons_succ, List.length_cons, List.length_nil, List.map_cons, List.map_nil, Nat.zero_add, Nat.add_zero, frOf, den_nil, den_o0, ↓gd_tt, ↓gd_ft, den_o1, kont_app, den_g, setv, den_skip, den_reg, den_seq, den_cond, finE_n, ↓reduceIte, ↓e_load, ↓e_store, ↓e_mv, ↓e_pick, ↓e_nilc, ↓e_fld, ↓e_bin, ↓e_len, ↓u_binV, ↓binI, ↓evRes, Opd.ev, Sx.get, put, putO, del, dels, rd, upd, SV.cells?, SV.one, retOf, SV.ren, SV.renL, Nat.le_refl]
      exact ⟨[(0, 0), (1, 0), (2, 0)], by simp only [RS.mem, rdB, Nat.sub_self, ren_mcs, EntM, compat, apartM, keysBelow, eta, idHs, rd, SV.ren, SV.renL, Option.getD_some, List.getElem?_cons_zero, List.getElem?_cons_succ, List.length_cons, List.length_nil, Nat.zero_add, Nat.add_zero, Nat.reduceAdd, Nat.reduceSub, Nat.reduceEqDiff, Nat.reduceLT, ↓reduceIte, Kind.isOwn, List.take_succ_cons, List.nil_append, List.cons_append, List.take_nil, and_self, true_and, exists_eq_left', Option.some.injEq, Nat.le_refl, ne_eq, not_false_eq_true, implies_true, List.not_mem_nil, false_imp_iff, Bool.true_or, forall_const, reduceCtorEq, List.mem_cons, or_false, forall_eq]⟩
    · have hS : RS.pub i m ⟨b, 0, ms⟩ = ⟨b.drop 16, 0, ms.set i { m with pub := b.take 16 }⟩ := by simp [RS.pub, h16]
      rw [hS]
      have c1 : ¬ (b.length : Int) < 16 := by omega
      have c2 : (16 : Int) ≤ (b.length : Int) := by omega
      have c3 : 0 < b.length := by omega
      have c4 : 16 ≤ b.length := by omega
      have tk := takeB b 16
      have hpl : (b.take 16).length = 16 := by simp; omega
      have hpp := put_pub hP hm (b.take 16) hpl
      have hlm : i * 18 + 1 + 16 ≤ ms.length * 18 := by omega
      have hss : b.length - (b.length - 16) = 16 := by omega
      have hdl2 : (b.drop 16).length = b.length - 16 := by simp
      have hb16 : (bys (b.take 16)).length = 16 := by rw [len_bytes, hpl]
      simp (config := { maxSteps := 1000000 }) only [c1, c2, c3, c4, tk, hpp, hpl, hlm, hlen, sp0, Option.map_none, Int.le_refl, beq_self_eq_true, setv, reduceCtorEq, Nat.reduceEqDiff, Nat.reduceAdd, Nat.reduceLeDiff, Nat.reduceLT, Int.reduceToNat, Int.reduceLE, eq_self, decide_false,  true_and, and_true, List.getElem?_cons_zero, List.getElem?_cons_succ, List.length_cons, List.length_nil, List.drop_zero, List.map_cons, List.map_nil, Nat.zero_add, Nat.add_zero, frOf, den_nil, den_o0, ↓gd_tt, ↓gd_ft, den_o1, kont_app, den_g, setv, den_skip, den_reg, den_seq, den_cond, finE_n, ↓reduceIte, ↓e_load, ↓e_store, ↓e_slcS, ↓e_arrAt, ↓e_mv, ↓e_pick, ↓e_nilc, ↓e_fld, ↓e_bin, ↓e_len, ↓u_onOpt0, ↓u_onOpt1, ↓u_binV, ↓binI, ↓evRes, Opd.ev, Sx.get, put, putO, del, dels, rd, upd, SV.cells?, SV.one, retOf, SV.ren, SV.renL, Nat.sub_zero, Nat.le_refl, len_bytes, Int.toNat_natCast, Nat.mul_one]
      exact ⟨[(0, 0), (1, 0), (2, 0)], by simp only [RS.mem, rdB, hdl2, hss, ren_mcs, EntM, compat, apartM, keysBelow, eta, idHs, rd, SV.ren, SV.renL, Option.getD_some, List.getElem?_cons_zero, List.getElem?_cons_succ, List.length_cons, List.length_nil, Nat.zero_add, Nat.add_zero, Nat.reduceAdd, Nat.reduceSub, Nat.reduceEqDiff, Nat.reduceLT, ↓reduceIte, Kind.isOwn, List.take_succ_cons, List.nil_append, List.cons_append, List.take_nil, and_self, true_and, exists_eq_left', Option.some.injEq, Nat.le_refl, ne_eq, not_false_eq_true, implies_true, List.not_mem_nil, false_imp_iff, Bool.true_or, forall_const, reduceCtorEq, List.mem_cons, or_false, forall_eq]⟩
  · have hS : RS.pub i m ⟨b, e0, ms⟩ = ⟨b, e0, ms⟩ := by simp [RS.pub, h0]
    have hb1 : (e0 == 0) = false := by simpa using h0
    rw [hS]
    simp (config := { maxSteps := 1000000 }) only [hb1, undef, setv, reduceCtorEq, Nat.reduceEqDiff, eq_self,  true_and, and_true, List.getElem?_cons_zero, List.getElem?_cons_succ, Nat.zero_add, frOf, den_nil, den_o0, ↓gd_ft, den_o1, kont_app, den_g, setv, Bool.not_true, den_skip, den_reg, Bool.not_true, den_seq, den_cond, finE_n, ↓reduceIte, ↓e_load, ↓e_mv, ↓e_pick, ↓e_nilc, ↓e_fld, ↓e_bin, ↓u_binV, ↓binI, ↓evRes, Opd.ev, Sx.get, put, putO, del, dels, rd, retOf, SV.ren, SV.renL]
    exact ⟨[(0, 0), (1, 0), (2, 0)], by simp only [RS.mem, rdB, Nat.sub_self, ren_mcs, EntM, compat, apartM, keysBelow, eta, idHs, rd, SV.ren, SV.renL, Option.getD_some, List.getElem?_cons_zero, List.getElem?_cons_succ, List.length_cons, List.length_nil, Nat.zero_add, Nat.add_zero, Nat.reduceAdd, Nat.reduceSub, Nat.reduceEqDiff, Nat.reduceLT, ↓reduceIte, Kind.isOwn, List.take_succ_cons, List.nil_append, List.cons_append, List.take_nil, and_self, true_and, exists_eq_left', Option.some.injEq, Nat.le_refl, ne_eq, not_false_eq_true, implies_true, List.not_mem_nil, false_imp_iff, Bool.true_or, forall_const, reduceCtorEq, List.mem_cons, or_false, forall_eq]⟩
def gStep (st : Nat → Mb → RS → RS) : GS
  | [.ptr 0 0, .ptr 2 o], [(0, ⟨.own 68, [.slc 1 0 1 len none, .int .i64 e]⟩), (1, ⟨.view, cells⟩), (2, ⟨.own 47, mc⟩)] => match unB cells, unM mc.length mc with
    | some b, some ms => if len = b.length ∧ b.length ≤ 2 ^ 36 ∧ o = o / 18 * 18 then (match ms[o / 18]? with
      | some m => some (.tup [], (st (o / 18) m ⟨b, e, ms⟩).mem b, 3)
      | none => none) else none
    | _, _ => none
  | _, _ => none
theorem gStep_ok {f : FuncId} {st : Nat → Mb → RS → RS} (h : ∀ (s : RS) (i : Nat) (m : Mb), s.rest.length ≤ 2 ^ 36 → Pub s.ms → s.ms[i]? = some m →
    Fun Tryd.prog tS f [.ptr 0 0, .ptr 2 (i * 18)] s.mem0 3 (.tup []) ((st i m s).mem s.rest) 3) : FunS Tryd.prog tS f (gStep st) := by
  intro a0 m0 r m1 n1 hr
  unfold gStep at hr
  split at hr
  · rename_i o len e cells mc
    split at hr
    · rename_i b ms hb hm
      split at hr
      · rename_i hc
        obtain ⟨rfl, h1, h2⟩ := hc
        split at hr
        · rename_i m hi
          cases hr
          obtain ⟨rfl, hP⟩ := unM_some hm
          rw [unB_some hb, h2]
          refine ⟨?_, .inr ⟨_, List.mem_cons_self, own_of rfl⟩, .inr ⟨_, List.mem_cons_of_mem _ (List.mem_cons_of_mem _ List.mem_cons_self), own_of rfl⟩, trivial⟩
          have := h ⟨b, e, ms⟩ (o / 18) m h1 hP hi
          rw [show o / 18 * 18 / 18 = o / 18 by omega]
          exact this
        · cases hr
      · cases hr
    · cases hr
  · cases hr
theorem gStep_eq {st : Nat → Mb → RS → RS} {b : List UInt8} {ms : List Mb} {e : Int} {i : Nat} {m : Mb} (hb : b.length ≤ 2 ^ 36) (hP : Pub ms) (hm : ms[i]? = some m) :
    gStep st [.ptr 0 0, .ptr 2 (i * 18)] [(0, ⟨.own 68, [.slc 1 0 1 b.length none, .int .i64 e]⟩), (1, ⟨.view, bys b⟩), (2, ⟨.own 47, mcs ms⟩)] = some (.tup [], (st i m ⟨b, e, ms⟩).mem b, 3) := by
  unfold gStep
  simp only [unB_bytes, unM_mcs hP (show ms.length ≤ (mcs ms).length by rw [len_mcs hP]; omega), show i * 18 / 18 = i by omega, hb, hm, and_self, if_true]
end Go.Proofs.YtkfbkooobfepeaaDoor
