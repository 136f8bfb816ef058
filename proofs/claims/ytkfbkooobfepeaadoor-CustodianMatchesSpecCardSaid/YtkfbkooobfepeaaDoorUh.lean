/- The proof, part Uh: the texts MemB, MemC, MemD, SanA, SanT, LawB, MemE, MemF, EncA, EncB, DigA, MemG, KepA, KepB, DecA, PlaC, DecB, DecC, DecD, DecE, DecF, DecG, DecH, RefA, PlaD, PlaE, LawC. -/
import Derived.Test.YtkfbkooobfepeaaDoorUg
/- Valid of package custodian. -/
namespace Go.Proofs.YtkfbkooobfepeaaDoor
open Go Go.Sx Sf
set_option maxRecDepth 100000
set_option linter.unusedVariables false
variable {tS : List (Nat × List SV)}
def okM (m : Mb) : Bool := !(decide (m.name.length < 1) || decide (m.name.length > 12) || decide (m.h < 0) || decide (m.h > 6))
def namesK (l : List Mb) : List KV := l.foldl (fun ks m => insK ks (.str m.name)) []
def pubsK (l : List Mb) : List KV := l.foldl (fun ks m => insK ks (.arr m.pub)) []
def validB (e n : Int) (l : List Mb) : Bool :=
  l.all okM && ((namesK l).length == l.length && ((pubsK l).length == l.length && (decide (1 ≤ n) && (decide (n ≤ l.length) && (decide (l.length ≤ 16) && (decide (0 ≤ e) && decide (e ≤ 2147483646)))))))
theorem namesK_snoc (l : List Mb) (m : Mb) : namesK (l ++ [m]) = insK (namesK l) (.str m.name) := by simp [namesK]
theorem pubsK_snoc (l : List Mb) (m : Mb) : pubsK (l ++ [m]) = insK (pubsK l) (.arr m.pub) := by simp [pubsK]
theorem kv_pub {p : List UInt8} (h : p.length = 16) : kvOf (some 16) (.agg (bys p)) = some (.arr p) := by
  have h1 : (bys p).length = 16 := by rw [len_bytes, h]
  have h2 : (bys p).all isByte = true := by simp [bys, List.all_eq_true, isByte_byte]
  simp only [kvOf, h1, h2, and_self, if_true, map_byteOf]
set_option maxHeartbeats 4000000 in
theorem f12 (e n : Int) (l : List Mb) (hP : Pub l) (hl : l.length ≤ 9223372036854775807) (cap : Option Nat) :
    Fun Tryd.prog tS 12 [.agg [.int .i64 e, .int .i64 n, .slc 0 0 18 l.length cap]] [(0, ⟨.view, mcs l⟩)] 1 (.bool (validB e n l)) [] 1 := by
  refine fun_any none cF cF_ok chk12 (show 1 ≤ 82 by decide) (by decide) ?_
  unfold sf12
  simp (config := { maxSteps := 1000000 }) only [reduceCtorEq, Nat.reduceEqDiff, Nat.reduceAdd, eq_self, List.getElem?_cons_zero, List.getElem?_cons_succ, Nat.zero_add, frOf, den_o0, den_o1, kont_app, den_reg, den_seq, den_block, ↓reduceIte, ↓e_box, ↓e_load, ↓e_mv, ↓e_fld, ↓e_len, ↓e_mkmap, Opd.ev, Sx.get, put, putO, del, dels, rd, SV.cells?]
  rw [den_loop]
  have hlen := len_mcs hP
  refine den_inv cF_ok (σ := Nat) (fun i => [(13, .int .i64 (i : Int)), (12, .int .i64 (l.length : Int)), (11, .slc 0 0 18 l.length cap), (4, .mp 3), (3, .mp 2), (1, .ptr 1 0)])
    (fun i => [(3, ⟨.map (some 16) (pubsK (l.take i)), []⟩), (2, ⟨.map none (namesK (l.take i)), []⟩), (1, ⟨.own 24, [.int .i64 e, .int .i64 n, .slc 0 0 18 l.length cap]⟩), (0, ⟨.view, mcs l⟩)]) (fun _ => 4)
    (fun i => i ≤ l.length ∧ l.all okM = (l.drop i).all okM) (fun i => l.length - i) 0 ?_ ⟨Nat.zero_le _, rfl⟩ ?_
  · exact ⟨[(0, 0), (1, 0), (2, 0), (3, 0)], by simp [ren_mcs, namesK, pubsK, EntM, compat, apartM, keysBelow, eta, idHs, rd, SV.ren, SV.renL, Option.getD_some, List.length_cons, List.length_nil, Nat.zero_add, Nat.add_zero, Nat.reduceAdd, Nat.reduceEqDiff, Nat.reduceLT, Nat.reduceLeDiff, ↓reduceIte, Kind.isOwn, List.take_succ_cons, List.take_zero, List.nil_append, and_self, true_and, exists_eq_left', Option.some.injEq, List.drop_zero, List.take_length, ne_eq, not_false_eq_true, implies_true, List.not_mem_nil, Bool.false_or, Bool.true_or, forall_const, reduceCtorEq, List.mem_cons, or_false, forall_eq_or_imp, forall_eq, Nat.succ_ne_self], by simp [frEnt, geto, eta, SV.ren, Option.getD_some, List.length_cons, List.length_nil, Nat.zero_add, Nat.add_zero, Nat.reduceAdd, Nat.reduceEqDiff, Nat.reduceLT, Nat.reduceLeDiff, ↓reduceIte, and_self, Nat.succ_ne_self]⟩
  · rintro i ⟨hi, hf⟩
    by_cases h : i < l.length
    · have c1 : (i : Int) < (l.length : Int) := by omega
      have c2 : (0 : Int) ≤ (i : Int) := by omega
      have wi : IntKind.i64.wrap ((i : Int) + 1) = ((i + 1 : Nat) : Int) := by rw [wrap64_eq (by omega) (by omega)]; omega
      have q1 : i * 18 < l.length * 18 := by omega
      have q2 : i * 18 + 18 ≤ l.length * 18 := by omega
      obtain ⟨m, hm⟩ : ∃ m, l[i]? = some m := ⟨_, List.getElem?_eq_getElem h⟩
      have hd : l.drop i = m :: l.drop (i + 1) := by
        rw [List.drop_eq_getElem_cons h]
        rw [List.getElem?_eq_getElem h] at hm; cases hm; rfl
      rw [hd, List.all_cons] at hf
      have h16 := hP m (List.mem_of_getElem? hm)
      have g18 := take_row hP hm
      have ml := Mb.sv_len h16
      have m0 := mb0 m
      have m17 := mb17 h16
      have mp := mbpub h16
      have kp := kv_pub h16
      have tk : l.take (i + 1) = l.take i ++ [m] := by rw [List.take_add_one, hm]; rfl
      have hbad : okM m = false → validB e n l = false := by
        intro hb
        unfold validB
        rw [hf, hb]; simp
      generalize hsv : m.sv = sv at *
      by_cases hb1 : m.name.length < 1
      · have d1 : (m.name.length : Int) < 1 := by omega
        have hv := hbad (by simp [okM, hb1])
        simp (config := { maxSteps := 1000000 }) only [c1, c2, q1, q2, hlen, g18, ml, m0, d1, hv, undef, setv, again_r, reduceCtorEq, Nat.reduceEqDiff, Nat.reduceAdd, eq_self, decide_true,  true_and, and_true, List.length_cons, List.length_nil, List.append_nil, List.nil_append, List.take_zero, List.drop_succ_cons, List.drop_nil, List.map_cons, List.map_nil, Nat.zero_add, Nat.add_zero, den_nil, den_o0, ↓gd_tt, ↓gd_tf, den_o1, kont_app, den_g, setv, Bool.not_false, den_skip, den_reg, Bool.not_false, den_seq, den_cond, den_block, den_ret, den_rb, den_rc, finE_r, ↓reduceIte, ↓e_load, ↓e_store, ↓e_idxS, ↓e_mv, ↓e_pick, ↓e_new, ↓e_fld, ↓e_bin, ↓e_len, ↓u_binV, ↓binI, ↓evRes, Opd.ev, Sx.get, put, putO, del, dels, rd, upd, splice, SV.cells?, retOf, SV.ren, Nat.le_refl, Int.toNat_natCast]
        exact ⟨[(0, 0)], rfl, by simp [compat, apartM, keysBelow, idHs, List.take_succ_cons, List.nil_append, List.take_nil, and_self]⟩
      have d1 : ¬ (m.name.length : Int) < 1 := by omega
      by_cases hb2 : m.name.length > 12
      · have d2 : (m.name.length : Int) > 12 := by omega
        have hv := hbad (by simp [okM, hb2])
        simp (config := { maxSteps := 1000000 }) only [c1, c2, q1, q2, hlen, g18, ml, m0, d1, d2, hv, undef, setv, again_r, reduceCtorEq, Nat.reduceEqDiff, Nat.reduceAdd, eq_self, decide_true, decide_false,  true_and, and_true, List.length_cons, List.length_nil, List.append_nil, List.nil_append, List.take_zero, List.drop_succ_cons, List.drop_nil, List.map_cons, List.map_nil, Nat.zero_add, Nat.add_zero, den_nil, den_o0, ↓gd_tt, ↓gd_ff, ↓gd_tf, ↓gd_ft, den_o1, kont_app, den_g, setv, Bool.not_false, den_skip, den_reg, Bool.not_false, den_seq, den_cond, den_block, den_ret, den_rb, den_rc, finE_r, ↓reduceIte, ↓e_load, ↓e_store, ↓e_idxS, ↓e_mv, ↓e_pick, ↓e_new, ↓e_fld, ↓e_bin, ↓e_len, ↓u_binV, ↓binI, ↓evRes, Opd.ev, Sx.get, put, putO, del, dels, rd, upd, splice, SV.cells?, retOf, SV.ren, Nat.le_refl, Int.toNat_natCast]
        exact ⟨[(0, 0)], rfl, by simp [compat, apartM, keysBelow, idHs, List.take_succ_cons, List.nil_append, List.take_nil, and_self]⟩
      have d2 : ¬ (m.name.length : Int) > 12 := by omega
      by_cases d3 : m.h < 0
      · have hv := hbad (by simp [okM, d3])
        simp (config := { maxSteps := 1000000 }) only [c1, c2, q1, q2, hlen, g18, ml, m0, m17, d1, d2, d3, hv, undef, setv, again_r, reduceCtorEq, Nat.reduceEqDiff, Nat.reduceAdd, eq_self, decide_true, decide_false,  true_and, and_true, List.length_cons, List.length_nil, List.append_nil, List.nil_append, List.take_zero, List.drop_succ_cons, List.drop_nil, List.map_cons, List.map_nil, Nat.zero_add, Nat.add_zero, den_nil, den_o0, ↓gd_tt, ↓gd_ff, ↓gd_tf, ↓gd_ft, den_o1, kont_app, den_g, setv, Bool.not_false, den_skip, den_reg, Bool.not_false, den_seq, den_cond, den_block, den_ret, den_rb, den_rc, finE_r, ↓reduceIte, ↓e_load, ↓e_store, ↓e_idxS, ↓e_mv, ↓e_pick, ↓e_new, ↓e_fld, ↓e_bin, ↓e_len, ↓u_binV, ↓binI, ↓evRes, Opd.ev, Sx.get, put, putO, del, dels, rd, upd, splice, SV.cells?, retOf, SV.ren, Nat.le_refl, Int.toNat_natCast]
        exact ⟨[(0, 0)], rfl, by simp [compat, apartM, keysBelow, idHs, List.take_succ_cons, List.nil_append, List.take_nil, and_self]⟩
      by_cases d4 : m.h > 6
      · have hv := hbad (by simp [okM, d4])
        simp (config := { maxSteps := 1000000 }) only [c1, c2, q1, q2, hlen, g18, ml, m0, m17, d1, d2, d3, d4, hv, setv, again_r, reduceCtorEq, Nat.reduceEqDiff, Nat.reduceAdd, eq_self, decide_true, decide_false,  true_and, and_true, List.length_cons, List.length_nil, List.append_nil, List.nil_append, List.take_zero, List.drop_succ_cons, List.drop_nil, List.map_cons, List.map_nil, Nat.zero_add, Nat.add_zero, den_nil, den_o0, ↓gd_tt, ↓gd_ff, ↓gd_ft, den_o1, kont_app, den_g, setv, den_skip, den_reg, den_seq, den_cond, den_block, den_ret, den_rb, den_rc, finE_r, ↓reduceIte, ↓e_load, ↓e_store, ↓e_idxS, ↓e_mv, ↓e_pick, ↓e_new, ↓e_fld, ↓e_bin, ↓e_len, ↓u_binV, ↓binI, ↓evRes, Opd.ev, Sx.get, put, putO, del, dels, rd, upd, splice, SV.cells?, retOf, SV.ren, Nat.le_refl, Int.toNat_natCast]
        exact ⟨[(0, 0)], rfl, by simp [compat, apartM, keysBelow, idHs, List.take_succ_cons, List.nil_append, List.take_nil, and_self]⟩
      have kl : m.name.length ≤ maxStr := by unfold maxStr; omega
      have ab : (bys m.pub).all isByte = true := by simp [bys, List.all_eq_true, isByte_byte]
      have mb := map_byteOf m.pub
      have hok : okM m = true := by simp [okM, hb1, hb2, d3, d4]
      rw [hok, Bool.true_and] at hf
      simp (config := { maxSteps := 1000000 }) only [c1, c2, wi, q1, q2, hlen, g18, ml, m0, m17, mp, d1, d2, d3, d4, kl, ab, mb, h16, beq_self_eq_true, and_self, Nat.reduceBEq, setv, again_n, reduceCtorEq, Nat.reduceEqDiff, Nat.reduceAdd, Nat.reduceLeDiff, eq_self, decide_true, decide_false,  true_and, and_true, List.getElem?_cons_zero, List.getElem?_cons_succ, List.length_cons, List.length_nil, List.append_nil, List.nil_append, List.cons_append, List.take_succ_cons, List.take_zero, List.drop_succ_cons, List.drop_zero, List.drop_nil, List.reverse_cons, List.reverse_nil, List.map_cons, List.map_nil, Nat.zero_add, Nat.add_zero, den_nil, den_o0, ↓gd_tt, ↓gd_ff, ↓gd_ft, den_o1, kont_app, den_g, setv, den_skip, den_reg, den_regW, den_W, evW, baseD, stBlk, touch, clear, untouched, updsW, List.contains_cons, List.contains_nil, Bool.or_false, Bool.or_self, Bool.or_true, den_seq, den_cond, den_block, den_b, ↓reduceIte, ↓e_load, ↓e_store, ↓e_idxS, ↓e_mv, ↓e_pick, ↓e_new, ↓e_fld, ↓e_bin, ↓e_len, ↓e_mput, ↓u_binV, ↓binI, Opd.ev, Sx.get, put, putO, del, dels, frD, memD, pickD, kills, views, newer, rd, upd, splice, keysOf, kvOf, SV.cells?, Nat.le_refl, len_bytes, Int.toNat_natCast]
      refine ⟨i + 1, ⟨[(0, 0), (1, 0), (2, 0), (3, 0)], ?_, ?_⟩, ⟨by omega, hf⟩, by omega⟩
      · simp only [tk, namesK_snoc, pubsK_snoc]
        simp [ren_mcs, EntM, compat, apartM, keysBelow, eta, idHs, rd, SV.ren, SV.renL, Option.getD_some, List.length_cons, List.length_nil, Nat.zero_add, Nat.add_zero, Nat.reduceAdd, Nat.reduceEqDiff, Nat.reduceLT, Nat.reduceLeDiff, ↓reduceIte, Kind.isOwn, List.take_succ_cons, List.take_zero, List.nil_append, and_self, true_and, exists_eq_left', Option.some.injEq, List.drop_zero, List.take_length, ne_eq, not_false_eq_true, implies_true, List.not_mem_nil, Bool.false_or, Bool.true_or, forall_const, reduceCtorEq, List.mem_cons, or_false, forall_eq_or_imp, forall_eq, Nat.succ_ne_self]
      · simp [frEnt, geto, eta, SV.ren, Option.getD_some, List.length_cons, List.length_nil, Nat.zero_add, Nat.add_zero, Nat.reduceAdd, Nat.reduceEqDiff, Nat.reduceLT, Nat.reduceLeDiff, ↓reduceIte, and_self, Nat.succ_ne_self]
    · obtain rfl : i = l.length := by omega
      have c1 : ¬ (l.length : Int) < (l.length : Int) := by omega
      have hv : validB e n l = ((((namesK l).length : Int) == (l.length : Int)) && ((((pubsK l).length : Int) == (l.length : Int)) && (decide (1 ≤ n) && (decide (n ≤ (l.length : Int)) && (decide ((l.length : Int) ≤ 16) && (decide (0 ≤ e) && decide (e ≤ 2147483646))))))) := by
        have e1 : ∀ a b : Nat, ((a : Int) == (b : Int)) = (a == b) := fun a b => by rw [Bool.eq_iff_iff]; simp only [beq_iff_eq]; omega
        have e2 : decide ((l.length : Int) ≤ 16) = decide (l.length ≤ 16) := by rw [Bool.eq_iff_iff]; simp only [decide_eq_true_eq]; omega
        unfold validB
        rw [hf, List.drop_length, List.all_nil, Bool.true_and, e1, e1, e2]
      simp (config := { maxSteps := 1000000 }) only [c1, List.take_length, SV.bool.injEq, undef, setv, again_x, Nat.reduceEqDiff, eq_self, decide_false,  true_and, List.getElem?_cons_zero, List.getElem?_cons_succ, Nat.zero_add, Nat.add_zero, den_nil, den_o0, ↓gd_tt, ↓gd_ft, gd_any, den_o1, kont_app, den_g, setv, Bool.not_true, den_reg, Bool.not_true, den_seq, den_cond, den_exit, den_ret, den_xb, den_xc, finE_r, ↓reduceIte, ↓e_load, ↓e_mv, ↓e_pick, ↓e_fld, ↓e_bin, ↓e_len, ↓e_mlen, ↓u_binV, ↓binI, ↓evRes, Opd.ev, Sx.get, put, putO, del, dels, rd, keysOf, retOf, SV.ren]
      refine ⟨fun h1 => ⟨fun h2 => ⟨fun h3 => ⟨fun h4 => ⟨fun h5 => ⟨fun h6 => ⟨[(0, 0)], ⟨rfl, by simp [compat, apartM, keysBelow, idHs, List.take_succ_cons, List.nil_append, List.take_nil, and_self]⟩, ?_⟩, fun h6 => ⟨[(0, 0)], ⟨rfl, by simp [compat, apartM, keysBelow, idHs, List.take_succ_cons, List.nil_append, List.take_nil, and_self]⟩, ?_⟩⟩, fun h5 => ⟨[(0, 0)], ⟨rfl, by simp [compat, apartM, keysBelow, idHs, List.take_succ_cons, List.nil_append, List.take_nil, and_self]⟩, ?_⟩⟩,
        fun h4 => ⟨[(0, 0)], ⟨rfl, by simp [compat, apartM, keysBelow, idHs, List.take_succ_cons, List.nil_append, List.take_nil, and_self]⟩, ?_⟩⟩, fun h3 => ⟨[(0, 0)], ⟨rfl, by simp [compat, apartM, keysBelow, idHs, List.take_succ_cons, List.nil_append, List.take_nil, and_self]⟩, ?_⟩⟩, fun h2 => ⟨[(0, 0)], ⟨rfl, by simp [compat, apartM, keysBelow, idHs, List.take_succ_cons, List.nil_append, List.take_nil, and_self]⟩, ?_⟩⟩, fun h1 => ⟨[(0, 0)], ⟨rfl, by simp [compat, apartM, keysBelow, idHs, List.take_succ_cons, List.nil_append, List.take_nil, and_self]⟩, ?_⟩⟩
      all_goals
        rw [hv]
        simp only [*, Bool.true_and, Bool.false_and]
def gValid : GS
  | [.agg [.int .i64 e, .int .i64 n, .slc 0 0 18 len _]], [(0, ⟨.view, cells⟩)] => match unM cells.length cells with
    | some l => if len = l.length then (match Nat.ble l.length 9223372036854775807 with
      | true => some (.bool (validB e n l), [], 1)
      | false => none) else none
    | none => none
  | _, _ => none
theorem gValid_ok : FunS Tryd.prog tS 12 gValid := by
  intro a0 m0 r m1 n1 h
  unfold gValid at h
  split at h
  · split at h
    · rename_i l hl
      split at h
      · split at h
        · rename_i he _ hb
          cases h
          subst he
          obtain ⟨rfl, hP⟩ := unM_some hl
          exact ⟨f12 _ _ l hP (Nat.le_of_ble_eq_true hb) _, by simp [freshB]⟩
        · cases h
      · cases h
    · cases h
  · cases h
end Go.Proofs.YtkfbkooobfepeaaDoor

/- Index and Kept of members. -/
namespace Go.Proofs.YtkfbkooobfepeaaDoor
open Go Go.Sx Sf
set_option maxRecDepth 100000
set_option linter.unusedVariables false
variable {tS : List (Nat × List SV)}
def eqM (a b : Mb) : Bool := a.name == b.name && (a.pub == b.pub && (a.h == b.h && true))
theorem eqM_iff {a b : Mb} : eqM a b = true ↔ a = b := by
  obtain ⟨n, p, h⟩ := a
  obtain ⟨n', p', h'⟩ := b
  simp only [eqM, Bool.and_eq_true, beq_iff_eq, and_true, Mb.mk.injEq]
theorem eq_mb {a b : Mb} (ha : a.pub.length = 16) (hb : b.pub.length = 16) :
    eqPat [.s, .i .u8, .i .u8, .i .u8, .i .u8, .i .u8, .i .u8, .i .u8, .i .u8, .i .u8, .i .u8, .i .u8, .i .u8, .i .u8, .i .u8, .i .u8, .i .u8, .i .i64] a.sv b.sv = some (eqM a b) := by
  have h2 : eqPat [.i .i64] [.int .i64 a.h] [.int .i64 b.h] = some (a.h == b.h && true) := rfl
  have h1 := eqPat_bys a.pub b.pub _ _ _ _ (by rw [ha, hb]) h2
  rw [ha] at h1
  show (match eqTag .s (.str a.name) (.str b.name), eqPat (List.replicate 16 (.i .u8) ++ [.i .i64]) (bys a.pub ++ [.int .i64 a.h]) (bys b.pub ++ [.int .i64 b.h]) with
    | some x, some y => some (x && y)
    | _, _ => none) = some (eqM a b)
  rw [h1]; rfl
def idxF (m : Mb) : Nat → List Mb → Int
  | _, [] => -1
  | i, x :: l => if eqM x m = true then (i : Int) else idxF m (i + 1) l
def idxM (l : List Mb) (m : Mb) : Int := idxF m 0 l
theorem f30 (l : List Mb) (m : Mb) (hP : Pub l) (hm : m.pub.length = 16) (hl : l.length ≤ 9223372036854775807) (cap : Option Nat) :
    Fun Tryd.prog tS 30 [.slc 0 0 18 l.length cap, .agg m.sv] [(0, ⟨.view, mcs l⟩)] 1 (.int .i64 (idxM l m)) [] 1 := by
  refine fun_any none cF cF_ok chk30 (show 2 ≤ 19 by decide) (by decide) ?_
  unfold sf30
  have ml := Mb.sv_len hm
  have tk18 : List.take 18 m.sv = m.sv := List.take_of_length_le (by omega)
  simp (config := { maxSteps := 1000000 }) only [reduceCtorEq, Nat.reduceEqDiff, Nat.reduceAdd, Int.reduceNeg, eq_self, Nat.zero_add, frOf, den_o0, den_o1, kont_app, den_reg, den_seq, den_block, ↓reduceIte, ↓e_box, ↓e_mv, ↓e_len, Opd.ev, Sx.get, put, putO, del, dels, SV.cells?]
  rw [den_loop]
  have hlen := len_mcs hP
  refine den_inv cF_ok (σ := Nat) (fun i => [(8, .int .i64 (i : Int)), (7, .int .i64 (l.length : Int)), (3, .ptr 1 0), (0, .slc 0 0 18 l.length cap)])
    (fun i => [(1, ⟨.own 47, m.sv⟩), (0, ⟨.view, mcs l⟩)]) (fun _ => 2)
    (fun i => i ≤ l.length ∧ idxM l m = idxF m i (l.drop i)) (fun i => l.length - i) 0 ?_ ⟨Nat.zero_le _, rfl⟩ ?_
  · exact ⟨[(0, 0), (1, 0)], by simp [ren_mcs, ren_mb, EntM, compat, apartM, keysBelow, eta, idHs, rd, Option.getD_some, List.length_cons, List.length_nil, Nat.zero_add, Nat.add_zero, Nat.reduceAdd, Nat.reduceLeDiff, ↓reduceIte, Kind.isOwn, List.take_succ_cons, List.take_zero, List.nil_append, and_self, true_and, exists_eq_left', Option.some.injEq, List.drop_zero, List.take_length, ne_eq, not_false_eq_true, implies_true, List.not_mem_nil, Bool.false_or, Bool.true_or, forall_const, List.mem_cons, or_false, forall_eq, Nat.succ_ne_self], by simp [frEnt, geto, eta, SV.ren, Option.getD_some, List.length_cons, List.length_nil, Nat.zero_add, Nat.add_zero, Nat.reduceAdd, Nat.reduceEqDiff, Nat.reduceLeDiff, ↓reduceIte, and_self, reduceCtorEq, Nat.succ_ne_self]⟩
  · rintro i ⟨hi, hf⟩
    by_cases h : i < l.length
    · have c1 : (i : Int) < (l.length : Int) := by omega
      have c2 : (0 : Int) ≤ (i : Int) := by omega
      have wi : IntKind.i64.wrap ((i : Int) + 1) = ((i + 1 : Nat) : Int) := by rw [wrap64_eq (by omega) (by omega)]; omega
      have q1 : i * 18 < l.length * 18 := by omega
      have q2 : i * 18 + 18 ≤ l.length * 18 := by omega
      obtain ⟨x, hx⟩ : ∃ x, l[i]? = some x := ⟨_, List.getElem?_eq_getElem h⟩
      have hd : l.drop i = x :: l.drop (i + 1) := by
        rw [List.drop_eq_getElem_cons h]
        rw [List.getElem?_eq_getElem h] at hx; cases hx; rfl
      rw [hd] at hf
      have h16 := hP x (List.mem_of_getElem? hx)
      have g18 := take_row hP hx
      have he := eq_mb hm h16
      have rm := fun η => ren_mb η m
      have sy : eqM m x = eqM x m := by rw [Bool.eq_iff_iff, eqM_iff, eqM_iff]; exact eq_comm
      rw [sy] at he
      generalize hsv : m.sv = sv at *
      generalize hsx : x.sv = sx at *
      cases hq : eqM x m with
      | true =>
        rw [hq] at he
        simp only [idxF, hq, if_true] at hf
        simp (config := { maxSteps := 1000000 }) only [c1, c2, q1, q2, hlen, g18, ml, tk18, ↓he, SV.int.injEq, again_r, reduceCtorEq, Nat.reduceEqDiff, Int.reduceNeg, eq_self, decide_true,  true_and, List.drop_zero, Nat.zero_add, den_nil, den_o0, ↓gd_tt, den_o1, kont_app, den_skip, den_reg, den_regP, den_seq, den_cond, den_block, den_ret, den_rb, den_rc, finE_r, ↓reduceIte, ↓e_load, ↓e_idxS, ↓e_eqv, ↓e_mv, ↓e_bin, ↓u_binV, ↓binI, ↓evRes, Opd.ev, Sx.get, put, putO, del, dels, rd, retOf, SV.ren, Nat.le_refl, Int.toNat_natCast]
        exact ⟨[(0, 0)], ⟨rfl, by simp [compat, apartM, keysBelow, idHs, List.take_succ_cons, List.nil_append, List.take_nil, and_self]⟩, hf.symm⟩
      | false =>
        rw [hq] at he
        simp only [idxF, hq, Bool.false_eq_true, if_false] at hf
        simp (config := { maxSteps := 1000000 }) only [c1, c2, wi, q1, q2, hlen, g18, ml, tk18, ↓he, again_n, reduceCtorEq, Nat.reduceEqDiff, Int.reduceNeg, eq_self, decide_true,  true_and, List.drop_zero, Nat.zero_add, den_nil, den_o0, ↓gd_tt, ↓gd_ft, den_o1, kont_app, den_skip, den_reg, den_regP, den_seq, den_cond, den_block, den_b, ↓reduceIte, ↓e_load, ↓e_idxS, ↓e_eqv, ↓e_mv, ↓e_bin, ↓u_binV, ↓binI, Opd.ev, Sx.get, put, putO, del, dels, rd, Nat.le_refl, Int.toNat_natCast]
        exact ⟨i + 1, ⟨[(0, 0), (1, 0)], by simp [ren_mcs, rm, EntM, compat, apartM, keysBelow, eta, idHs, rd, Option.getD_some, List.length_cons, List.length_nil, Nat.zero_add, Nat.add_zero, Nat.reduceAdd, Nat.reduceLeDiff, ↓reduceIte, Kind.isOwn, List.take_succ_cons, List.take_zero, List.nil_append, and_self, true_and, exists_eq_left', Option.some.injEq, List.drop_zero, List.take_length, ne_eq, not_false_eq_true, implies_true, List.not_mem_nil, Bool.false_or, Bool.true_or, forall_const, List.mem_cons, or_false, forall_eq, Nat.succ_ne_self], by simp [frEnt, geto, eta, SV.ren, Option.getD_some, List.length_cons, List.length_nil, Nat.zero_add, Nat.add_zero, Nat.reduceAdd, Nat.reduceEqDiff, Nat.reduceLeDiff, ↓reduceIte, and_self, reduceCtorEq, Nat.succ_ne_self]⟩, ⟨by omega, hf⟩, by omega⟩
    · obtain rfl : i = l.length := by omega
      have c1 : ¬ (l.length : Int) < (l.length : Int) := by omega
      rw [List.drop_length] at hf
      simp only [idxF] at hf
      simp (config := { maxSteps := 1000000 }) only [c1, hf, again_x, reduceCtorEq, Nat.reduceEqDiff, Int.reduceNeg, eq_self, decide_false,  true_and, and_true, den_nil, den_o0, ↓gd_ft, den_o1, kont_app, den_reg, den_seq, den_cond, den_exit, den_ret, den_xb, den_xc, finE_r, ↓reduceIte, ↓e_mv, ↓e_bin, ↓u_binV, ↓binI, ↓evRes, Opd.ev, Sx.get, put, putO, del, dels, retOf, SV.ren]
      exact ⟨[(0, 0)], rfl, by simp [compat, apartM, keysBelow, idHs, List.take_succ_cons, List.nil_append, List.take_nil, and_self]⟩
theorem nlS_z {i s k : Nat} (h : k = 0) : nlS i s k = .val (.slice none 0 0) := by subst h; rfl
theorem nlM_z {i k : Nat} {e : TypeId} {cells : List SV} {m : Mem} (h : k = 0) : nlM i e cells m k = m := by subst h; rfl
theorem nlN_z {i k : Nat} (h : k = 0) : nlN i k = i := by subst h; rfl
theorem nlS_p {i s k : Nat} (h : 0 < k) : nlS i s k = .slc i 0 s k none := by cases k with | zero => omega | succ k => rfl
theorem nlM_p {i k : Nat} {e : TypeId} {cells : List SV} {m : Mem} (h : 0 < k) : nlM i e cells m k = (i, ⟨.own e, cells⟩) :: m := by cases k with | zero => omega | succ k => rfl
theorem nlN_p {i k : Nat} (h : 0 < k) : nlN i k = i + 1 := by cases k with | zero => omega | succ k => rfl
def unMb (cells : List SV) : Option Mb := match unM cells.length cells with
  | some [m] => some m
  | _ => none
theorem unMb_sv {m : Mb} (h : m.pub.length = 16) : unMb m.sv = some m := by
  have hP : Pub [m] := by intro x hx; simp at hx; rw [hx]; exact h
  have e : m.sv = mcs [m] := by simp [mcs]
  unfold unMb
  rw [e, unM_mcs hP (by rw [len_mcs hP]; simp)]
theorem unMb_some {cells : List SV} {m : Mb} (h : unMb cells = some m) : cells = m.sv ∧ m.pub.length = 16 := by
  unfold unMb at h
  split at h
  · rename_i x hx
    cases h
    obtain ⟨e, hP⟩ := unM_some hx
    exact ⟨by rw [e]; simp [mcs], hP _ List.mem_cons_self⟩
  · cases h
def gIndex : GS
  | [.slc 0 0 18 len _, .agg mc], [(0, ⟨.view, cells⟩)] => match unM cells.length cells, unMb mc with
    | some l, some m => if len = l.length then (match Nat.ble l.length 9223372036854775807 with
      | true => some (.int .i64 (idxM l m), [], 1)
      | false => none) else none
    | _, _ => none
  | _, _ => none
theorem gIndex_ok : FunS Tryd.prog tS 30 gIndex := by
  intro a0 m0 r m1 n1 h
  unfold gIndex at h
  split at h
  · split at h
    · rename_i l m hl hm
      split at h
      · split at h
        · rename_i he _ hb
          cases h
          subst he
          obtain ⟨rfl, hP⟩ := unM_some hl
          obtain ⟨rfl, h16⟩ := unMb_some hm
          exact ⟨f30 l m hP h16 (Nat.le_of_ble_eq_true hb) _, by simp [freshB]⟩
        · cases h
      · cases h
    · cases h
  · cases h
def tabM : List (FuncId × GS) := [(30, gIndex)]
theorem tabM_ok : ∀ x ∈ tabM, FunS Tryd.prog tS x.1 x.2 := by
  intro x hx
  simp only [tabM, List.mem_cons, List.not_mem_nil, or_false] at hx
  rcases hx with rfl
  exact gIndex_ok
def keptL (old new : List Mb) : List Int := old.map (idxM new)
set_option maxHeartbeats 4000000 in
theorem f16 (e n e' n' : Int) (l l' : List Mb) (hP : Pub l) (hP' : Pub l') (hl : l.length ≤ 1000) (hl' : l'.length ≤ 1000) (cap cap' : Option Nat) :
    Fun Tryd.prog tS 16 [.agg [.int .i64 e, .int .i64 n, .slc 0 0 18 l.length cap], .agg [.int .i64 e', .int .i64 n', .slc 1 0 18 l'.length cap']] [(0, ⟨.view, mcs l⟩), (1, ⟨.view, mcs l'⟩)] 2
      (nlS 2 1 l.length) (nlM 2 3 (ints (keptL l l')) [] l.length) (nlN 2 l.length) := by
  refine fun_any none (callS tabM cF) (callS_ok tabM_ok cF_ok) chk16 (show 2 ≤ 23 by decide) (by cases l.length <;> simp [nlN]) ?_
  unfold sf16
  have hlen := len_mcs hP
  have hlen' := len_mcs hP'
  have fl' := flat_mcs l'
  have tk' : List.take (l'.length * 18) (mcs l') = mcs l' := List.take_of_length_le (by omega)
  have un' := unM_mcs (f := (mcs l').length) hP' (by rw [hlen']; omega)
  rw [hlen'] at un'
  have b0 : Nat.ble l'.length 9223372036854775807 = true := Nat.ble_eq_true_of_le (by omega)
  simp (config := { maxSteps := 1000000 }) only [reduceCtorEq, Nat.reduceEqDiff, Nat.reduceAdd, eq_self, List.getElem?_cons_zero, List.getElem?_cons_succ, Nat.zero_add, frOf, den_o0, den_o1, kont_app, den_reg, den_seq, den_block, ↓reduceIte, ↓e_box, ↓e_load, ↓e_mv, ↓e_fld, ↓e_len, Opd.ev, Sx.get, put, putO, del, dels, rd, SV.cells?]
  rw [den_loop]
  refine den_inv (callS_ok tabM_ok cF_ok) (σ := Nat) (fun i => [(10, .int .i64 (i : Int)), (9, .int .i64 (l.length : Int)), (8, .slc 0 0 18 l.length cap), (4, nlS 4 1 i), (3, .ptr 3 0)])
    (fun i => nlM 4 3 (ints ((keptL l l').take i)) [(3, ⟨.own 24, [.int .i64 e', .int .i64 n', .slc 1 0 18 l'.length cap']⟩), (2, ⟨.own 24, [.int .i64 e, .int .i64 n, .slc 0 0 18 l.length cap]⟩), (0, ⟨.view, mcs l⟩), (1, ⟨.view, mcs l'⟩)] i) (fun i => nlN 4 i)
    (fun i => i ≤ l.length) (fun i => l.length - i) 0 ?_ (Nat.zero_le _) ?_
  · exact ⟨[(0, 0), (1, 0), (2, 0), (3, 0)], by simp [ren_mcs, EntM, compat, apartM, keysBelow, eta, idHs, rd, SV.ren, SV.renL, Option.getD_some, List.length_cons, List.length_nil, Nat.zero_add, Nat.add_zero, Nat.reduceAdd, Nat.reduceEqDiff, Nat.reduceLT, Nat.reduceLeDiff, ↓reduceIte, Kind.isOwn, List.take_succ_cons, List.take_zero, List.nil_append, List.cons_append, and_self, true_and, exists_eq_left', Option.some.injEq, List.drop_zero, List.take_length, ne_eq, not_false_eq_true, implies_true, List.not_mem_nil, Bool.false_or, Bool.true_or, forall_const, reduceCtorEq, List.mem_cons, or_false, forall_eq_or_imp, forall_eq, Nat.succ_ne_self, nlM_0, nlN_0], by simp [frEnt, geto, eta, SV.ren, Option.getD_some, List.length_cons, List.length_nil, Nat.zero_add, Nat.add_zero, Nat.reduceAdd, Nat.reduceEqDiff, Nat.reduceLeDiff, ↓reduceIte, and_self, Nat.succ_ne_self, nlS_0]⟩
  · intro i hi
    by_cases h : i < l.length
    · have c1 : (i : Int) < (l.length : Int) := by omega
      have c2 : (0 : Int) ≤ (i : Int) := by omega
      have wi : IntKind.i64.wrap ((i : Int) + 1) = ((i + 1 : Nat) : Int) := by rw [wrap64_eq (by omega) (by omega)]; omega
      have q1 : i * 18 < l.length * 18 := by omega
      have q2 : i * 18 + 18 ≤ l.length * 18 := by omega
      obtain ⟨x, hx⟩ : ∃ x, l[i]? = some x := ⟨_, List.getElem?_eq_getElem h⟩
      have h16 := hP x (List.mem_of_getElem? hx)
      have g18 := take_row hP hx
      have ml := Mb.sv_len h16
      have tk18 : List.take 18 x.sv = x.sv := List.take_of_length_le (by omega)
      have fx := x.sv_flat
      have ux := unMb_sv h16
      have hrm := fun η => ren_mb η x
      generalize hsx : x.sv = sx at *
      have hk : (keptL l l').take (i + 1) = (keptL l l').take i ++ [idxM l' x] := by
        rw [List.take_add_one]
        congr 1
        unfold keptL
        rw [List.getElem?_map, hx]; rfl
      have hki : ints ((keptL l l').take i) ++ [.int .i64 (idxM l' x)] = ints ((keptL l l').take (i + 1)) := by rw [hk]; simp [ints]
      have hlt : (ints ((keptL l l').take i)).length = i := by rw [len_ints]; simp [keptL]; omega
      rcases Nat.eq_zero_or_pos i with h0 | h0
      · rw [nlS_z h0, nlM_z h0, nlN_z h0]
        simp (config := { maxSteps := 1000000 }) only [tabM, gIndex, c1, c2, wi, q1, q2, hlen, hlen', g18, ml, tk18, fx, ux, fl', tk', un', b0, and_self, lookF, again_n, reduceCtorEq, Nat.reduceEqDiff, Nat.reduceAdd, Nat.reduceSub, Nat.reduceMul, Nat.reduceLT, eq_self, decide_true,  true_and, List.getElem?_cons_zero, List.getElem?_cons_succ, List.length_cons, List.length_nil, List.append_nil, List.nil_append, List.take_succ_cons, List.take_zero, List.drop_succ_cons, List.drop_zero, List.take_nil, List.drop_nil, List.map_cons, List.map_nil, Nat.zero_add, Nat.add_zero, den_nil, den_o0, ↓gd_tt, den_o1, kont_app, den_skip, den_reg, den_seq, den_cond, den_block, den_b, ↓reduceIte, ↓e_bslice, ↓e_load, ↓e_store, ↓e_idxS, ↓e_app, ↓e_mv, ↓e_new, ↓e_fld, ↓e_bin, ↓e_call, ↓u_binV, ↓u_srcOf, ↓u_srcSl, ↓binI, ↓fillE, Opd.ev, Sx.get, put, putO, del, dels, rd, upd, splice, SV.cells?, SV.one, ↓u_callS, canLW, canV, canC, belowL, apH, apH1, SV.ren, newOwn, targets, rms, Kind.isOwn, Nat.le_refl, Int.toNat_natCast, Nat.mul_one]
        have e1 : ints ((keptL l l').take (i + 1)) = [.int .i64 (idxM l' x)] := by rw [← hki, h0]; rfl
        exact ⟨by omega, by omega, i + 1, ⟨[(0, 0), (1, 0), (2, 0), (3, 0), (6, 0)], by simp only [e1, ren_mcs, EntM, compat, apartM, keysBelow, eta, idHs, rd, SV.ren, SV.renL, Option.getD_some, List.getElem?_cons_zero, List.getElem?_cons_succ, List.length_cons, List.length_nil, Nat.zero_add, Nat.add_zero, Nat.reduceAdd, Nat.reduceSub, Nat.reduceEqDiff, Nat.reduceLT, Nat.reduceLeDiff, ↓reduceIte, Kind.isOwn, List.take_succ_cons, List.take_zero, List.nil_append, List.cons_append, and_self, true_and, exists_eq_left', Option.some.injEq, List.drop_zero, List.take_length, Nat.le_refl, ne_eq, not_false_eq_true, implies_true, List.not_mem_nil, false_imp_iff, Bool.false_or, Bool.true_or, forall_const, reduceCtorEq, List.mem_cons, or_false, forall_eq_or_imp, forall_eq, Nat.succ_ne_self, nlM_1, nlN_1], by simp only [h0, frEnt, geto, eta, SV.ren, Option.getD_some, List.getElem?_cons_zero, List.getElem?_cons_succ, List.length_cons, List.length_nil, Nat.zero_add, Nat.add_zero, Nat.reduceAdd, Nat.reduceSub, Nat.reduceEqDiff, ↓reduceIte, and_self, Nat.succ_ne_self, nlS_1]⟩, by omega, by omega⟩
      · rw [nlS_p h0, nlM_p h0, nlN_p h0]
        simp (config := { maxSteps := 1000000 }) only [tabM, gIndex, c1, c2, wi, q1, q2, hlen, hlen', g18, ml, tk18, fx, ux, fl', tk', un', b0, hlt, and_self, lookF, again_n, reduceCtorEq, Nat.reduceEqDiff, Nat.reduceAdd, Nat.reduceSub, Nat.reduceLT, eq_self, decide_true,  true_and, List.getElem?_cons_zero, List.getElem?_cons_succ, List.length_cons, List.length_nil, List.append_nil, List.nil_append, List.take_succ_cons, List.take_zero, List.drop_succ_cons, List.drop_zero, List.take_nil, List.drop_nil, List.map_cons, List.map_nil, Nat.zero_add, Nat.add_zero, den_nil, den_o0, ↓gd_tt, den_o1, kont_app, den_skip, den_reg, den_seq, den_cond, den_block, den_b, ↓reduceIte, ↓e_bslice, ↓e_load, ↓e_store, ↓e_idxS, ↓e_app, ↓e_mv, ↓e_new, ↓e_fld, ↓e_bin, ↓e_call, ↓u_binV, ↓u_srcOf, ↓u_srcSl, ↓binI, ↓fillE, Opd.ev, Sx.get, put, putO, del, dels, rd, rm, upd, splice, SV.cells?, SV.one, ↓u_callS, canLW, canV, canC, belowL, apH, apH1, SV.ren, newOwn, targets, rms, Kind.isOwn, Nat.le_refl, Int.toNat_natCast, Nat.mul_one]
        have e0 : List.take i (ints ((keptL l l').take i)) = ints ((keptL l l').take i) := List.take_of_length_le (by omega)
        rw [e0, hki]
        exact ⟨by omega, by omega, i + 1, ⟨[(0, 0), (1, 0), (2, 0), (3, 0), (7, 0)], by simp only [ren_mcs, EntM, compat, apartM, keysBelow, eta, idHs, rd, SV.ren, SV.renL, Option.getD_some, List.getElem?_cons_zero, List.getElem?_cons_succ, List.length_cons, List.length_nil, Nat.zero_add, Nat.add_zero, Nat.reduceAdd, Nat.reduceSub, Nat.reduceEqDiff, Nat.reduceLT, Nat.reduceLeDiff, ↓reduceIte, Kind.isOwn, List.take_succ_cons, List.take_zero, List.nil_append, List.cons_append, and_self, true_and, exists_eq_left', Option.some.injEq, List.drop_zero, List.take_length, Nat.le_refl, ne_eq, not_false_eq_true, implies_true, List.not_mem_nil, false_imp_iff, Bool.false_or, Bool.true_or, forall_const, reduceCtorEq, List.mem_cons, or_false, forall_eq_or_imp, forall_eq, Nat.succ_ne_self, nlM_1, nlN_1, ren_ints], by simp only [frEnt, geto, eta, SV.ren, Option.getD_some, List.getElem?_cons_zero, List.getElem?_cons_succ, List.length_cons, List.length_nil, Nat.zero_add, Nat.add_zero, Nat.reduceAdd, Nat.reduceSub, Nat.reduceEqDiff, ↓reduceIte, and_self, Nat.succ_ne_self, nlS_1]⟩, by omega, by omega⟩
    · obtain rfl : i = l.length := by omega
      have c1 : ¬ (l.length : Int) < (l.length : Int) := by omega
      have hkl : (keptL l l').length = l.length := by simp [keptL]
      have hkt : (keptL l l').take l.length = keptL l l' := List.take_of_length_le (by omega)
      rcases Nat.eq_zero_or_pos l.length with h0 | h0
      · rw [nlS_z h0, nlM_z h0, nlN_z h0, nlS_z h0, nlM_z h0, nlN_z h0]
        simp (config := { maxSteps := 1000000 }) only [c1, again_x, Nat.reduceEqDiff, eq_self, decide_false,  true_and, and_true, den_nil, den_o0, ↓gd_ft, den_o1, kont_app, den_reg, den_seq, den_cond, den_exit, den_ret, den_xb, den_xc, finE_r, ↓reduceIte, ↓e_mv, ↓e_bin, ↓u_binV, ↓binI, ↓evRes, Opd.ev, Sx.get, put, putO, del, dels, retOf, SV.ren]
        exact ⟨[(0, 0), (1, 0)], rfl, by simp [compat, apartM, keysBelow, idHs, List.take_succ_cons, List.nil_append, List.cons_append, List.take_nil, and_self]⟩
      · rw [nlS_p h0, nlM_p h0, nlN_p h0, nlS_p h0, nlM_p h0, nlN_p h0, hkt]
        simp (config := { maxSteps := 1000000 }) only [c1, again_x, Nat.reduceEqDiff, Nat.reduceAdd, eq_self, decide_false,  true_and, Nat.add_zero, den_nil, den_o0, ↓gd_ft, den_o1, kont_app, den_reg, den_seq, den_cond, den_exit, den_ret, den_xb, den_xc, finE_r, ↓reduceIte, ↓e_mv, ↓e_bin, ↓u_binV, ↓binI, ↓evRes, Opd.ev, Sx.get, put, putO, del, dels, retOf, eta, SV.ren]
        exact ⟨[(0, 0), (1, 0), (4, 0)], by simp [EntM, compat, apartM, keysBelow, eta, idHs, rd, Option.getD_some, List.length_cons, List.length_nil, Nat.zero_add, Nat.add_zero, Nat.reduceAdd, Nat.reduceLeDiff, ↓reduceIte, Kind.isOwn, List.take_succ_cons, List.take_zero, List.nil_append, List.cons_append, and_self, true_and, exists_eq_left', Option.some.injEq, ne_eq, implies_true, List.not_mem_nil, Bool.true_or, forall_const, ren_ints], by simp [Option.getD_some, List.length_cons, List.length_nil, Nat.zero_add, Nat.add_zero, Nat.reduceAdd, Nat.reduceLeDiff]⟩
end Go.Proofs.YtkfbkooobfepeaaDoor

/- Clone and Replace of members. -/
namespace Go.Sx
open Go
theorem fun_nil {P : Program} {T : List (Nat × List SV)} {f : FuncId} {s : Nat} {e : TypeId} (F1 : Fun P T f [.val (.slice none 0 0)] [] 0 (.val (.slice none 0 0)) [] 0)
    (F2 : ∀ a c, Fun P T f [.val (.slice (some a) 0 c)] [] 0 (.slc 0 0 s 0 none) [(0, ⟨.own e, []⟩)] 1) :
    Fun P T f [.slc 0 0 s 0 none] [(0, ⟨.view, []⟩)] 1 (.slc 1 0 s 0 none) [(1, ⟨.own e, []⟩)] 2 := by
  refine ⟨F1.fok, by decide, fun ρ w vals R X hv => ?_⟩
  have hnv : ∀ b, ¬ ownsB ρ [(0, (⟨.view, []⟩ : Blk))] b := by
    rintro b ⟨i, B, L, h1, h2, _⟩
    simp at h1
    obtain ⟨rfl, rfl⟩ := h1
    exact h2 rfl
  have hn0 : ∀ b, ¬ ownsB (fun _ => none) [] b := by
    rintro b ⟨i, B, L, h1, _⟩; simp at h1
  have R0 : MemOk (ctxOf P T (fun _ => none) [] 0 w) (fun _ => none) [] 0 w :=
    ⟨fun i B h => by simp at h, fun i B j B' L L' b h => by simp at h, fun i _ => rfl, fun i B L b h => by simp at h, Nat.le_refl _, fun _ _ _ => rfl, fun _ _ => rfl, rfl, rfl⟩
  have X0 : CtxOk (ctxOf P T (fun _ => none) [] 0 w) := ⟨X.tab, fun g cs _ ho => hn0 g ho⟩
  simp only [SV.isL] at hv
  obtain ⟨x, ys, rfl, hx, rfl⟩ := hv
  obtain ⟨L, A, e1, e2, e3⟩ := by simpa only [SV.is] using hx
  obtain ⟨L', f1, f2⟩ := R.blk 0 _ List.mem_cons_self
  rw [e1] at f1; cases f1
  have fr1 : ρ 1 = none := R.fresh 1 (Nat.le_refl _)
  have done : ∀ (w' : World) (L1 : Loc) (hb : (⟨.own e, []⟩ : Blk).okAt (ρ.set 1 L1) w' L1) (hsz : w.heap.size ≤ w'.heap.size) (hfr : ∀ b, b < w.heap.size → w'.heap[b]? = w.heap[b]?) (hsd : w'.os = w.os ∧ w'.output = w.output) (hw : ∀ b, L1.blk = some b → w.heap.size ≤ b),
      MemOk (ctxOf P T ρ [(0, ⟨.view, []⟩)] 1 w) (ρ.set 1 L1) [(1, ⟨.own e, []⟩)] 2 w' := by
    intro w' L1 hb hsz hfr hsd hw
    have s1 : (ρ.set 1 L1) 1 = some L1 := by unfold Env.set; rw [if_pos rfl]
    refine ⟨?_, ?_, ?_, ?_, hsz, fun b h _ => hfr b h, ?_, hsd⟩
    · intro i B hi; simp at hi; obtain ⟨rfl, rfl⟩ := hi; exact ⟨L1, s1, hb⟩
    · intro i B j B' L L' b hi hj hij; simp at hi hj; exact absurd (hi.1.trans hj.1.symm) hij
    · intro i hi; unfold Env.set; rw [if_neg (by omega)]; exact R.fresh i (by omega)
    · intro i B L b hi ho hL hbk; simp at hi; obtain ⟨rfl, rfl⟩ := hi
      rw [s1] at hL; cases hL
      exact .inl (hw b hbk)
    · intro i hi
      have : i < 1 := hi
      unfold Env.set; rw [if_neg (by omega)]; rfl
  have hle : ∀ L1, ρ.le (ρ.set 1 L1) := fun L1 => Env.le_set fr1
  cases A with
  | none =>
    have hb : L.blk = none := by
      rcases e3 with h | h
      · cases hq : L.blk with
        | none => rfl
        | some b => rw [hq] at h; cases h
      · exact h.2.2.1 rfl
    have hc : L.cap = 0 := by unfold Blk.okAt at f2; rw [hb] at f2; exact f2.2
    have ex : x = .slice none 0 0 := by rw [e2]; simp [hc]
    refine (F1.run (fun _ => none) w [x] R0 X0 (by simp only [SV.isL]; exact ⟨x, [], rfl, by simp only [SV.is]; exact ex, rfl⟩)).mono ?_
    rintro e0 w' ⟨y, ρ1, rfl, _, h2, h3⟩
    have hy : y = .slice none 0 0 := by simpa only [SV.is] using h2
    refine ⟨y, ρ.set 1 ⟨none, 0, 0⟩, rfl, hle _, ?_, done w' ⟨none, 0, 0⟩ (by unfold Blk.okAt; exact ⟨rfl, rfl⟩) h3.size (fun b hb => h3.frame b hb (hn0 b)) h3.side (fun b hb => by cases hb)⟩
    simp only [SV.is]
    refine ⟨⟨none, 0, 0⟩, none, by unfold Env.set; rw [if_pos rfl], by rw [hy]; simp, .inl rfl⟩
  | some a =>
    have ex : x = .slice (some a) 0 ((none : Option Nat).getD ((L.cap - 0) / s)) := e2
    refine (F2 a _).run (fun _ => none) w [x] R0 X0 (by simp only [SV.isL]; exact ⟨x, [], rfl, by simp only [SV.is]; exact ex, rfl⟩) |>.mono ?_
    rintro e0 w' ⟨y, ρ1, rfl, _, h2, h3⟩
    obtain ⟨L1, A1, g1, g2, g3⟩ := by simpa only [SV.is] using h2
    obtain ⟨L2, k1, k2⟩ := h3.blk 0 _ List.mem_cons_self
    rw [g1] at k1; cases k1
    refine ⟨y, ρ.set 1 L1, rfl, hle _, ?_, done w' L1 ?_ h3.size (fun b hb => h3.frame b hb (hn0 b)) h3.side ?_⟩
    · simp only [SV.is]
      exact ⟨L1, A1, by unfold Env.set; rw [if_pos rfl], g2, g3⟩
    · unfold Blk.okAt at k2 ⊢
      cases hb : L1.blk with
      | none => rw [hb] at k2; exact k2
      | some b =>
        rw [hb] at k2
        exact ⟨k2.1, fun j v hj => by simp at hj, k2.2.2⟩
    · intro b hb
      rcases h3.wrt 0 _ L1 b List.mem_cons_self (own_of rfl) g1 hb with q | q
      · exact q
      · exact absurd q (hn0 b)
end Go.Sx
namespace Go.Proofs.YtkfbkooobfepeaaDoor
open Go Go.Sx Sf
set_option maxRecDepth 100000
set_option linter.unusedVariables false
variable {tS : List (Nat × List SV)}
theorem f29e : Fun Tryd.prog tS 29 [.slc 0 0 18 0 none] [(0, ⟨.view, []⟩)] 1 (.slc 1 0 18 0 none) [(1, ⟨.own 47, []⟩)] 2 := by
  refine fun_nil ?_ ?_
  · refine fun_any none cF cF_ok chk29 (show 1 ≤ 8 by decide) (by decide) ?_
    unfold sf29
    simp (config := { maxSteps := 1000000 }) only [reduceCtorEq, Nat.reduceEqDiff, eq_self, and_true, frOf, den_nil, den_o0, ↓gd_tt, den_o1, kont_app, Bool.not_false, den_reg, Bool.not_false, den_seq, den_cond, den_ret, den_rc, finE_r, ↓reduceIte, ↓e_isNil, ↓e_mv, ↓evRes, Opd.ev, Sx.get, put, putO, del, dels, retOf, SV.ren]
    exact ⟨[], rfl, by simp [compat, apartM, keysBelow, idHs, List.take_nil, and_self]⟩
  · intro a c
    refine fun_any none cF cF_ok chk29 (show 1 ≤ 8 by decide) (by decide) ?_
    unfold sf29
    simp (config := { maxSteps := 1000000 }) only [reduceCtorEq, Nat.reduceEqDiff, Nat.reduceAdd, Nat.reduceMul, eq_self,  true_and, List.length_nil, List.append_nil, List.take_nil, Nat.zero_add, Nat.add_zero, frOf, den_nil, den_o0, ↓gd_ft, den_o1, kont_app, den_skip, den_reg, den_seq, den_cond, den_ret, finE_r, ↓reduceIte, ↓e_bslice, ↓e_isNil, ↓e_app, ↓e_mv, ↓u_srcOf, ↓u_srcSl, ↓fillE, ↓evRes, Opd.ev, Sx.get, put, putO, del, dels, rd, rm, retOf, eta, SV.ren, Nat.le_refl]
    exact ⟨by omega, by omega, [(1, 0)], by simp [EntM, compat, apartM, keysBelow, eta, idHs, rd, SV.renL, Option.getD_some, List.length_cons, List.length_nil, Nat.zero_add, Nat.add_zero, ↓reduceIte, Kind.isOwn, List.take_zero, and_self, true_and, exists_eq_left', Option.some.injEq, ne_eq, implies_true, List.not_mem_nil, Bool.true_or, forall_const], by simp [Option.getD_some, List.length_cons, List.length_nil, Nat.zero_add, Nat.add_zero]⟩
theorem f29 (l : List Mb) (hP : Pub l) (h0 : 0 < l.length) (hl : l.length ≤ 1000) (cap : Option Nat) : Fun Tryd.prog tS 29 [.slc 0 0 18 l.length cap] [(0, ⟨.view, mcs l⟩)] 1 (.slc 1 0 18 l.length none) [(1, ⟨.own 47, mcs l⟩)] 2 := by
  refine fun_any none cF cF_ok chk29 (show 1 ≤ 8 by decide) (by decide) ?_
  unfold sf29
  have hlen := len_mcs hP
  have h1 : 0 < l.length * 18 := by omega
  have tk : List.take (l.length * 18) (mcs l) = mcs l := List.take_of_length_le (by omega)
  simp (config := { maxSteps := 1000000 }) only [hlen, h1, tk, reduceCtorEq, Nat.reduceEqDiff, Nat.reduceAdd, Nat.reduceMul, eq_self,  true_and, List.length_nil, List.nil_append, List.drop_zero, List.take_nil, Nat.zero_add, Nat.add_zero, frOf, den_nil, den_o0, ↓gd_ft, den_o1, kont_app, den_skip, den_reg, den_seq, den_cond, den_ret, finE_r, ↓reduceIte, ↓e_bslice, ↓e_isNil, ↓e_app, ↓e_mv, ↓u_srcOf, ↓u_srcSl, ↓fillE, ↓evRes, Opd.ev, Sx.get, put, putO, del, dels, rd, rm, retOf, eta, SV.ren, Nat.le_refl]
  exact ⟨by omega, by omega, [(0, 0), (2, 0)], by simp [ren_mcs, EntM, compat, apartM, keysBelow, eta, idHs, rd, Option.getD_some, List.length_cons, List.length_nil, Nat.zero_add, Nat.add_zero, Nat.reduceAdd, Nat.reduceLeDiff, ↓reduceIte, Kind.isOwn, List.take_succ_cons, List.take_zero, List.nil_append, and_self, true_and, exists_eq_left', Option.some.injEq, ne_eq, implies_true, List.not_mem_nil, Bool.true_or, forall_const], by simp [Option.getD_some, List.length_cons, List.length_nil, Nat.zero_add, Nat.add_zero, Nat.reduceAdd, Nat.reduceLeDiff]⟩
def gClone : GS
  | [.slc 0 0 18 len none], [(0, ⟨.view, cells⟩)] => match unM cells.length cells with
    | some l => if len = l.length ∧ l.length ≤ 1000 then some (.slc 1 0 18 l.length none, [(1, ⟨.own 47, mcs l⟩)], 2) else none
    | none => none
  | _, _ => none
theorem gClone_ok : FunS Tryd.prog tS 29 gClone := by
  intro a0 m0 r m1 n1 h
  unfold gClone at h
  split at h
  · split at h
    · rename_i l hl
      split at h
      · rename_i hc
        obtain ⟨h1, h2⟩ := hc
        cases h
        subst h1
        obtain ⟨rfl, hP⟩ := unM_some hl
        rcases Nat.eq_zero_or_pos l.length with h0 | h0
        · have : l = [] := List.length_eq_zero_iff.1 h0
          subst this
          exact ⟨f29e, by simp [freshB]⟩
        · exact ⟨f29 l hP h0 h2 _, by simp [freshB]⟩
      · cases h
    · cases h
  · cases h
def tabN : List (FuncId × GS) := [(29, gClone), (12, gValid)]
theorem tabN_ok : ∀ x ∈ tabN, FunS Tryd.prog tS x.1 x.2 := by
  intro x hx
  simp only [tabN, List.mem_cons, List.not_mem_nil, or_false] at hx
  rcases hx with rfl | rfl
  · exact gClone_ok
  · exact gValid_ok
def replB (e n need : Int) (l l' : List Mb) : Bool := validB e n l && validB (IntKind.i64.wrap (e + 1)) need l'
def noCust : SV := .agg [.int .i64 0, .int .i64 0, .val (.slice none 0 0)]
set_option maxHeartbeats 4000000 in
theorem f10 (e n need : Int) (l l' : List Mb) (hP : Pub l) (hP' : Pub l') (hl : l.length ≤ 1000) (hl' : l'.length ≤ 1000) :
    (replB e n need l l' = true → Fun Tryd.prog tS 10 [.agg [.int .i64 e, .int .i64 n, .slc 0 0 18 l.length none], .int .i64 need, .slc 1 0 18 l'.length none] [(0, ⟨.view, mcs l⟩), (1, ⟨.view, mcs l'⟩)] 2
      (.tup [.agg [.int .i64 (IntKind.i64.wrap (e + 1)), .int .i64 need, .slc 2 0 18 l'.length none], .int .i64 0]) [(2, ⟨.own 47, mcs l'⟩)] 3) ∧
    (replB e n need l l' = false → Fun Tryd.prog tS 10 [.agg [.int .i64 e, .int .i64 n, .slc 0 0 18 l.length none], .int .i64 need, .slc 1 0 18 l'.length none] [(0, ⟨.view, mcs l⟩), (1, ⟨.view, mcs l'⟩)] 2
      (.tup [noCust, .int .i64 1]) [] 2) := by
  have hlen := len_mcs hP
  have hlen' := len_mcs hP'
  have fl := flat_mcs l
  have fl' := flat_mcs l'
  have tk : List.take (l.length * 18) (mcs l) = mcs l := List.take_of_length_le (by omega)
  have tk' : List.take (l'.length * 18) (mcs l') = mcs l' := List.take_of_length_le (by omega)
  have un := unM_mcs (f := (mcs l).length) hP (by rw [hlen]; omega)
  rw [hlen] at un
  have un' := unM_mcs (f := (mcs l').length) hP' (by rw [hlen']; omega)
  rw [hlen'] at un'
  have b0 : Nat.ble l.length 9223372036854775807 = true := Nat.ble_eq_true_of_le (by omega)
  have b0' : Nat.ble l'.length 9223372036854775807 = true := Nat.ble_eq_true_of_le (by omega)
  constructor
  all_goals
    intro hr
    unfold replB at hr
    refine fun_any none (callS tabN cF) (callS_ok tabN_ok cF_ok) chk10 (show 3 ≤ 26 by decide) (by decide) ?_
    unfold sf10
    cases hv : validB e n l <;> cases hv' : validB (IntKind.i64.wrap (e + 1)) need l' <;> rw [hv, hv'] at hr <;> simp only [Bool.and_true, Bool.and_false, Bool.and_self, Bool.false_eq_true, Bool.true_eq_false] at hr
    all_goals
      simp (config := { maxSteps := 1000000 }) only [tabN, gClone, gValid, ren_mcs, hlen, hlen', fl, fl', tk, tk', un, un', b0, b0', hl', hv, hv', SV.flatL, SV.flat, Bool.and_true, Bool.true_and, List.cons.injEq, SV.int.injEq, SV.tup.injEq, SV.agg.injEq, and_self, undef, lookF, setv, reduceCtorEq, Nat.reduceEqDiff, Nat.reduceAdd, Nat.reduceSub, Nat.reduceLeDiff, Nat.reduceLT, Int.reduceNeg, Int.reduceEq, false_imp_iff, true_imp_iff, eq_self,  true_and, and_true, and_false, List.getElem?_cons_zero, List.getElem?_cons_succ, List.length_cons, List.length_nil, List.append_nil, List.nil_append, List.cons_append, List.take_succ_cons, List.take_zero, List.drop_succ_cons, List.drop_zero, List.take_nil, List.drop_nil, List.reverse_cons, List.reverse_nil, List.map_cons, List.map_nil, Nat.zero_add, Nat.add_zero, frOf, den_nil, den_o0, ↓gd_tt, ↓gd_ff, ↓gd_tf, ↓gd_ft, gd_any, den_o1, kont_app, den_g, setv, Bool.not_true, Bool.not_false, den_skip, den_reg, den_regD, den_A, Bool.not_true, Bool.not_false, den_seq, den_cond, den_ret, den_rc, finE_r, ↓reduceIte, ↓e_box, ↓e_build, ↓e_load, ↓e_store, ↓e_mv, ↓e_pick, ↓e_new, ↓e_fld, ↓e_bin, ↓e_un, ↓e_call, ↓u_binV, ↓binI, ↓binS, ↓fillE, ↓evRes, evA, Opd.ev, Sx.get, put, putO, del, dels, frD, memD, pickD, kills, views, newer, rd, upd, splice, SV.cells?, SV.one, retOf, ↓u_callS, canLW, canV, canC, belowL, apH, apH1, eta, SV.ren, SV.renL, newOwn, targets, rms, Kind.isOwn, List.getElem?_nil, Option.getD_none, Nat.le_refl]
      first
        | exact ⟨[(0, 0), (1, 0), (4, 0)], by simp [ren_mcs, EntM, compat, apartM, keysBelow, eta, idHs, rd, Option.getD_some, List.length_cons, List.length_nil, Nat.zero_add, Nat.add_zero, Nat.reduceAdd, Nat.reduceLeDiff, ↓reduceIte, Kind.isOwn, List.take_succ_cons, List.take_zero, List.nil_append, List.cons_append, and_self, and_true, true_and, exists_eq_left', Option.some.injEq, ne_eq, implies_true, List.not_mem_nil, Bool.true_or, forall_const, Nat.succ_ne_self], by simp [Option.getD_some, List.length_cons, List.length_nil, Nat.zero_add, Nat.add_zero, Nat.reduceAdd, Nat.reduceLeDiff]⟩
        | exact ⟨[(0, 0), (1, 0)], ⟨rfl, by simp [compat, apartM, keysBelow, idHs, List.take_succ_cons, List.nil_append, List.cons_append, List.take_nil, and_self]⟩, rfl⟩
def gReplace : GS
  | [.agg [.int .i64 e, .int .i64 n, .slc 0 0 18 len none], .int .i64 need, .slc 1 0 18 len' none], [(0, ⟨.view, cells⟩), (1, ⟨.view, cells'⟩)] => match unM cells.length cells, unM cells'.length cells' with
    | some l, some l' => if len = l.length ∧ len' = l'.length ∧ l.length ≤ 1000 ∧ l'.length ≤ 1000 then (match replB e n need l l' with
      | true => some (.tup [.agg [.int .i64 (IntKind.i64.wrap (e + 1)), .int .i64 need, .slc 2 0 18 l'.length none], .int .i64 0], [(2, ⟨.own 47, mcs l'⟩)], 3)
      | false => some (.tup [noCust, .int .i64 1], [], 2)) else none
    | _, _ => none
  | _, _ => none
theorem gReplace_ok : FunS Tryd.prog tS 10 gReplace := by
  intro a0 m0 r m1 n1 h
  unfold gReplace at h
  split at h
  · rename_i e n len need len' cells cells'
    split at h
    · rename_i l l' hl hl'
      split at h
      · rename_i hc
        obtain ⟨h1, h2, h4, h5⟩ := hc
        subst h1; subst h2
        obtain ⟨rfl, hP⟩ := unM_some hl
        obtain ⟨rfl, hP'⟩ := unM_some hl'
        obtain ⟨F1, F2⟩ := f10 (tS := tS) e n need l l' hP hP' h4 h5
        split at h
        · rename_i hb; cases h; exact ⟨F1 hb, by simp [freshB]⟩
        · rename_i hb; cases h; exact ⟨F2 hb, by simp [freshB]⟩
      · cases h
    · cases h
  · cases h
end Go.Proofs.YtkfbkooobfepeaaDoor

/- The sanity of the laws, carried out. -/
namespace Go.Proofs.YtkfbkooobfepeaaDoor
open Go Go.Sx Sf
set_option maxRecDepth 100000
set_option linter.unusedVariables false
def tbL : List (FuncId × SF) := [(9, sf9), (10, sf10), (12, sf12), (14, sf14), (15, sf15), (16, sf16), (18, sf18), (20, sf20), (22, sf22), (24, sf24), (26, sf26), (28, sf28), (29, sf29), (30, sf30), (31, sf31), (32, sf32), (33, sf33), (34, sf34), (39, sf39), (41, sf41), (43, sf43), (44, sf44), (45, sf45), (46, sf46), (47, sf47), (51, sf51), (52, sf52), (53, sf53), (54, sf54), (57, sf57), (58, sf58), (59, sf59), (60, sf60), (61, sf61), (69, sf69), (70, sf70), (75, sf75), (76, sf76), (85, sf85)]
def tb : FuncId → Option SF := lookF tbL
theorem tb_ok : TbOk Tryd.prog tb := by
  intro f sf h
  have hm := lookF_mem h
  simp only [tbL, List.mem_cons, Prod.mk.injEq, List.not_mem_nil, or_false] at hm
  rcases hm with ⟨rfl, rfl⟩ | ⟨rfl, rfl⟩ | ⟨rfl, rfl⟩ | ⟨rfl, rfl⟩ | ⟨rfl, rfl⟩ | ⟨rfl, rfl⟩ | ⟨rfl, rfl⟩ | ⟨rfl, rfl⟩ | ⟨rfl, rfl⟩ | ⟨rfl, rfl⟩ | ⟨rfl, rfl⟩ | ⟨rfl, rfl⟩ | ⟨rfl, rfl⟩ | ⟨rfl, rfl⟩ | ⟨rfl, rfl⟩ | ⟨rfl, rfl⟩ | ⟨rfl, rfl⟩ | ⟨rfl, rfl⟩ | ⟨rfl, rfl⟩ | ⟨rfl, rfl⟩ | ⟨rfl, rfl⟩ | ⟨rfl, rfl⟩ | ⟨rfl, rfl⟩ | ⟨rfl, rfl⟩ | ⟨rfl, rfl⟩ | ⟨rfl, rfl⟩ | ⟨rfl, rfl⟩ | ⟨rfl, rfl⟩ | ⟨rfl, rfl⟩ | ⟨rfl, rfl⟩ | ⟨rfl, rfl⟩ | ⟨rfl, rfl⟩ | ⟨rfl, rfl⟩ | ⟨rfl, rfl⟩ | ⟨rfl, rfl⟩ | ⟨rfl, rfl⟩ | ⟨rfl, rfl⟩ | ⟨rfl, rfl⟩ | ⟨rfl, rfl⟩
  · exact chk9
  · exact chk10
  · exact chk12
  · exact chk14
  · exact chk15
  · exact chk16
  · exact chk18
  · exact chk20
  · exact chk22
  · exact chk24
  · exact chk26
  · exact chk28
  · exact chk29
  · exact chk30
  · exact chk31
  · exact chk32
  · exact chk33
  · exact chk34
  · exact chk39
  · exact chk41
  · exact chk43
  · exact chk44
  · exact chk45
  · exact chk46
  · exact chk47
  · exact chk51
  · exact chk52
  · exact chk53
  · exact chk54
  · exact chk57
  · exact chk58
  · exact chk59
  · exact chk60
  · exact chk61
  · exact chk69
  · exact chk70
  · exact chk75
  · exact chk76
  · exact chk85
end Go.Proofs.YtkfbkooobfepeaaDoor

/- The sanity of the laws: true. -/
namespace Go.Proofs.YtkfbkooobfepeaaDoor
open Go Go.Sx Sf
set_option maxRecDepth 100000
theorem sane_run : runF tb tH (runS [(73, g73)]) 300 30 9 [] [] 0 = some (.bool true, [], 0) := by kernel_rfl
theorem sane_x : runS [(73, g73)] 9 [] [] 0 = none := rfl
theorem f9 : Fun Tryd.prog tH 9 [] [] 0 (.bool true) [] 0 :=
  fun_of_run tb_ok (runS_ok (fun x h => by simp only [List.mem_singleton] at h; subst h; exact g73_ok)) sane_x sane_run
def gSane : GS
  | [], [] => some (.bool true, [], 0)
  | _, _ => none
theorem gSane_ok : FunS Tryd.prog tH 9 gSane := by
  intro a0 m0 r m1 n1 h
  unfold gSane at h
  split at h
  · cases h; exact ⟨f9, by simp [freshB]⟩
  · cases h
end Go.Proofs.YtkfbkooobfepeaaDoor

/- The law CustodianReplaced: it computes true. -/
namespace Go.Proofs.YtkfbkooobfepeaaDoor
open Go Go.Sx Sf
set_option maxRecDepth 100000
set_option linter.unusedSimpArgs false
set_option linter.unusedVariables false
theorem insK_len (ks : List KV) (k : KV) : (insK ks k).length = if k ∈ ks then ks.length else ks.length + 1 := by
  unfold insK; split <;> simp
theorem mem_insK {ks : List KV} {k x : KV} : x ∈ insK ks k ↔ x ∈ ks ∨ x = k := by
  unfold insK
  split
  · rename_i h
    constructor
    · exact .inl
    · rintro (h' | rfl)
      · exact h'
      · exact h
  · simp
theorem fold_keys {α : Type} (f : α → KV) : ∀ (l : List α) (ks : List KV), (l.foldl (fun ks m => insK ks (f m)) ks).length ≤ ks.length + l.length ∧
    ((l.foldl (fun ks m => insK ks (f m)) ks).length = ks.length + l.length → (∀ x ∈ l, f x ∉ ks) ∧ (l.map f).Nodup)
  | [], ks => by simp
  | a :: l, ks => by
    obtain ⟨h1, h2⟩ := fold_keys f l (insK ks (f a))
    have hl := insK_len ks (f a)
    simp only [List.foldl_cons, List.length_cons, List.map_cons, List.nodup_cons]
    split at hl
    · exact ⟨by omega, fun h => by omega⟩
    · rename_i hn
      refine ⟨by omega, fun h => ?_⟩
      obtain ⟨g1, g2⟩ := h2 (by omega)
      refine ⟨?_, ?_, g2⟩
      · intro x hx
        rcases List.mem_cons.1 hx with rfl | hx
        · exact hn
        · intro hm
          exact g1 x hx (mem_insK.2 (.inl hm))
      · intro hm
        obtain ⟨y, hy, e⟩ := List.mem_map.1 hm
        exact g1 y hy (mem_insK.2 (.inr e))
theorem few_len {l : List Mb} (h : fewB l = true) : l.length ≤ 20 := by
  unfold fewB at h; simp only [Bool.and_eq_true, decide_eq_true_eq] at h; exact h.2

end Go.Proofs.YtkfbkooobfepeaaDoor

/- The reference's Valid, and Same. -/
namespace Go.Proofs.YtkfbkooobfepeaaDoor
open Go Go.Sx Sf
set_option maxRecDepth 100000
set_option linter.unusedVariables false
variable {tS : List (Nat × List SV)}
theorem fold_keys' {α : Type} (f : α → KV) : ∀ (l : List α) (ks : List KV), (∀ x ∈ l, f x ∉ ks) → (l.map f).Nodup → (l.foldl (fun ks m => insK ks (f m)) ks).length = ks.length + l.length
  | [], ks, _, _ => by simp
  | a :: l, ks, h1, h2 => by
    simp only [List.map_cons, List.nodup_cons] at h2
    have hn := h1 a List.mem_cons_self
    have hl := insK_len ks (f a)
    rw [if_neg hn] at hl
    simp only [List.foldl_cons, List.length_cons]
    rw [fold_keys' f l (insK ks (f a)) ?_ h2.2]
    · omega
    · intro x hx hm
      rcases mem_insK.1 hm with h | h
      · exact h1 x (List.mem_cons_of_mem _ hx) h
      · exact h2.1 (by rw [← h]; exact List.mem_map_of_mem hx)
def numsOk (e n : Int) (len : Nat) : Prop := 1 ≤ n ∧ n ≤ (len : Int) ∧ len ≤ 16 ∧ 0 ≤ e ∧ e ≤ 2147483646
def Diff (l : List Mb) : Prop := ∀ (k i : Nat) (a b : Mb), k < i → l[k]? = some a → l[i]? = some b → a.name ≠ b.name ∧ a.pub ≠ b.pub
theorem validB_iff {e n : Int} {l : List Mb} : validB e n l = true ↔ (∀ m ∈ l, okM m = true) ∧ numsOk e n l.length ∧ Diff l := by
  unfold validB numsOk
  simp only [Bool.and_eq_true, List.all_eq_true, beq_iff_eq, decide_eq_true_eq]
  constructor
  · rintro ⟨h1, h2, h3, h4, h5, h6, h7, h8⟩
    refine ⟨h1, ⟨h4, h5, h6, h7, h8⟩, ?_⟩
    have n1 := ((fold_keys (fun m : Mb => KV.str m.name) l []).2 (by simpa [namesK] using h2)).2
    have n2 := ((fold_keys (fun m : Mb => KV.arr m.pub) l []).2 (by simpa [pubsK] using h3)).2
    rw [List.Nodup, List.pairwise_iff_getElem] at n1 n2
    intro k i a b hk ha hb
    obtain ⟨hk', rfl⟩ := List.getElem?_eq_some_iff.1 ha
    obtain ⟨hi', rfl⟩ := List.getElem?_eq_some_iff.1 hb
    have m1 := n1 k i (by simpa using hk') (by simpa using hi') hk
    have m2 := n2 k i (by simpa using hk') (by simpa using hi') hk
    exact ⟨fun h => m1 (by simp [h]), fun h => m2 (by simp [h])⟩
  · rintro ⟨h1, ⟨h4, h5, h6, h7, h8⟩, hD⟩
    have n1 : (l.map fun m => KV.str m.name).Nodup := by
      rw [List.Nodup, List.pairwise_iff_getElem]
      intro k i hk hi hki heq
      simp only [List.length_map] at hk hi
      simp only [List.getElem_map, KV.str.injEq] at heq
      exact (hD k i _ _ hki (List.getElem?_eq_getElem hk) (List.getElem?_eq_getElem hi)).1 heq
    have n2 : (l.map fun m => KV.arr m.pub).Nodup := by
      rw [List.Nodup, List.pairwise_iff_getElem]
      intro k i hk hi hki heq
      simp only [List.length_map] at hk hi
      simp only [List.getElem_map, KV.arr.injEq] at heq
      exact (hD k i _ _ hki (List.getElem?_eq_getElem hk) (List.getElem?_eq_getElem hi)).2 heq
    have k1 := fold_keys' (fun m : Mb => KV.str m.name) l [] (by simp) n1
    have k2 := fold_keys' (fun m : Mb => KV.arr m.pub) l [] (by simp) n2
    exact ⟨h1, by simpa [namesK] using k1, by simpa [pubsK] using k2, h4, h5, h6, h7, h8⟩
theorem validB_false {e n : Int} {l : List Mb} (h : ¬ ((∀ m ∈ l, okM m = true) ∧ numsOk e n l.length ∧ Diff l)) : validB e n l = false := by
  cases hv : validB e n l with
  | false => rfl
  | true => exact absurd (validB_iff.1 hv) h
theorem eq_pub {a b : List UInt8} (ha : a.length = 16) (hb : b.length = 16) :
    eqPat [.i .u8, .i .u8, .i .u8, .i .u8, .i .u8, .i .u8, .i .u8, .i .u8, .i .u8, .i .u8, .i .u8, .i .u8, .i .u8, .i .u8, .i .u8, .i .u8] (bys a) (bys b) = some (a == b) := by
  have h1 := eqPat_bys a b [] [] [] true (by rw [ha, hb]) rfl
  rw [ha] at h1
  simp only [List.append_nil, Bool.and_true] at h1
  exact h1
set_option maxHeartbeats 8000000 in
theorem f13 (e n : Int) (l : List Mb) (hP : Pub l) (hl : l.length ≤ 9223372036854775807) (cap : Option Nat) :
    Fun Tryd.prog tS 13 [.agg [.int .i64 e, .int .i64 n, .slc 0 0 18 l.length cap]] [(0, ⟨.view, mcs l⟩)] 1 (.bool (validB e n l)) [] 1 := by
  refine fun_any none cF cF_ok chk13 (show 1 ≤ 92 by decide) (by decide) ?_
  unfold sf13
  have hlen := len_mcs hP
  by_cases a1 : (l.length : Int) < 1
  · have hv : validB e n l = false := validB_false (by rintro ⟨_, ⟨_, _, _, _, _⟩, _⟩; omega)
    simp (config := { maxSteps := 1000000 }) only [a1, hv, undef, setv, reduceCtorEq, Nat.reduceEqDiff, Nat.reduceAdd, eq_self, decide_true,  true_and, and_true, List.getElem?_cons_zero, List.getElem?_cons_succ, Nat.zero_add, frOf, den_nil, den_o0, ↓gd_tt, ↓gd_tf, den_o1, kont_app, den_g, setv, Bool.not_false, den_reg, Bool.not_false, den_seq, den_cond, den_ret, den_rc, finE_r, ↓reduceIte, ↓e_box, ↓e_load, ↓e_mv, ↓e_pick, ↓e_fld, ↓e_bin, ↓e_len, ↓u_binV, ↓binI, ↓evRes, Opd.ev, Sx.get, put, putO, del, dels, rd, SV.cells?, retOf, SV.ren]
    exact ⟨[(0, 0)], rfl, by simp [compat, apartM, keysBelow, idHs, List.take_succ_cons, List.nil_append, List.take_nil, and_self]⟩
  by_cases a2 : (l.length : Int) > 16
  · have hv : validB e n l = false := validB_false (by rintro ⟨_, ⟨_, _, _, _, _⟩, _⟩; omega)
    simp (config := { maxSteps := 1000000 }) only [a1, a2, hv, undef, setv, reduceCtorEq, Nat.reduceEqDiff, Nat.reduceAdd, eq_self, decide_true, decide_false,  true_and, and_true, List.getElem?_cons_zero, List.getElem?_cons_succ, Nat.zero_add, frOf, den_nil, den_o0, ↓gd_tt, ↓gd_ff, ↓gd_tf, ↓gd_ft, den_o1, kont_app, den_g, setv, Bool.not_false, den_reg, Bool.not_false, den_seq, den_cond, den_ret, den_rc, finE_r, ↓reduceIte, ↓e_box, ↓e_load, ↓e_mv, ↓e_pick, ↓e_fld, ↓e_bin, ↓e_len, ↓u_binV, ↓binI, ↓evRes, Opd.ev, Sx.get, put, putO, del, dels, rd, SV.cells?, retOf, SV.ren]
    exact ⟨[(0, 0)], rfl, by simp [compat, apartM, keysBelow, idHs, List.take_succ_cons, List.nil_append, List.take_nil, and_self]⟩
  by_cases a3 : n < 1
  · have hv : validB e n l = false := validB_false (by rintro ⟨_, ⟨_, _, _, _, _⟩, _⟩; omega)
    simp (config := { maxSteps := 1000000 }) only [a1, a2, a3, hv, undef, setv, reduceCtorEq, Nat.reduceEqDiff, Nat.reduceAdd, eq_self, decide_true, decide_false,  true_and, and_true, List.getElem?_cons_zero, List.getElem?_cons_succ, Nat.zero_add, frOf, den_nil, den_o0, ↓gd_tt, ↓gd_ff, ↓gd_tf, ↓gd_ft, den_o1, kont_app, den_g, setv, Bool.not_false, den_reg, Bool.not_false, den_seq, den_cond, den_ret, den_rc, finE_r, ↓reduceIte, ↓e_box, ↓e_load, ↓e_mv, ↓e_pick, ↓e_fld, ↓e_bin, ↓e_len, ↓u_binV, ↓binI, ↓evRes, Opd.ev, Sx.get, put, putO, del, dels, rd, SV.cells?, retOf, SV.ren]
    exact ⟨[(0, 0)], rfl, by simp [compat, apartM, keysBelow, idHs, List.take_succ_cons, List.nil_append, List.take_nil, and_self]⟩
  by_cases a4 : n > (l.length : Int)
  · have hv : validB e n l = false := validB_false (by rintro ⟨_, ⟨_, _, _, _, _⟩, _⟩; omega)
    simp (config := { maxSteps := 1000000 }) only [a1, a2, a3, a4, hv, undef, setv, reduceCtorEq, Nat.reduceEqDiff, Nat.reduceAdd, eq_self, decide_true, decide_false,  true_and, and_true, List.getElem?_cons_zero, List.getElem?_cons_succ, Nat.zero_add, frOf, den_nil, den_o0, ↓gd_tt, ↓gd_ff, ↓gd_tf, ↓gd_ft, den_o1, kont_app, den_g, setv, Bool.not_false, den_reg, Bool.not_false, den_seq, den_cond, den_ret, den_rc, finE_r, ↓reduceIte, ↓e_box, ↓e_load, ↓e_mv, ↓e_pick, ↓e_fld, ↓e_bin, ↓e_len, ↓u_binV, ↓binI, ↓evRes, Opd.ev, Sx.get, put, putO, del, dels, rd, SV.cells?, retOf, SV.ren]
    exact ⟨[(0, 0)], rfl, by simp [compat, apartM, keysBelow, idHs, List.take_succ_cons, List.nil_append, List.take_nil, and_self]⟩
  by_cases a5 : e < 0
  · have hv : validB e n l = false := validB_false (by rintro ⟨_, ⟨_, _, _, _, _⟩, _⟩; omega)
    simp (config := { maxSteps := 1000000 }) only [a1, a2, a3, a4, a5, hv, undef, setv, reduceCtorEq, Nat.reduceEqDiff, Nat.reduceAdd, eq_self, decide_true, decide_false,  true_and, and_true, List.getElem?_cons_zero, List.getElem?_cons_succ, Nat.zero_add, Nat.add_zero, frOf, den_nil, den_o0, ↓gd_tt, ↓gd_ff, ↓gd_tf, ↓gd_ft, den_o1, kont_app, den_g, setv, Bool.not_false, den_reg, Bool.not_false, den_seq, den_cond, den_ret, den_rc, finE_r, ↓reduceIte, ↓e_box, ↓e_load, ↓e_mv, ↓e_pick, ↓e_fld, ↓e_bin, ↓e_len, ↓u_binV, ↓binI, ↓evRes, Opd.ev, Sx.get, put, putO, del, dels, rd, SV.cells?, retOf, SV.ren]
    exact ⟨[(0, 0)], rfl, by simp [compat, apartM, keysBelow, idHs, List.take_succ_cons, List.nil_append, List.take_nil, and_self]⟩
  by_cases a6 : e > 2147483646
  · have hv : validB e n l = false := validB_false (by rintro ⟨_, ⟨_, _, _, _, _⟩, _⟩; omega)
    simp (config := { maxSteps := 1000000 }) only [a1, a2, a3, a4, a5, a6, hv, setv, reduceCtorEq, Nat.reduceEqDiff, Nat.reduceAdd, eq_self, decide_true, decide_false,  true_and, and_true, List.getElem?_cons_zero, List.getElem?_cons_succ, Nat.zero_add, Nat.add_zero, frOf, den_nil, den_o0, ↓gd_tt, ↓gd_ff, ↓gd_ft, den_o1, kont_app, den_g, setv, den_reg, den_seq, den_cond, den_ret, den_rc, finE_r, ↓reduceIte, ↓e_box, ↓e_load, ↓e_mv, ↓e_pick, ↓e_fld, ↓e_bin, ↓e_len, ↓u_binV, ↓binI, ↓evRes, Opd.ev, Sx.get, put, putO, del, dels, rd, SV.cells?, retOf, SV.ren]
    exact ⟨[(0, 0)], rfl, by simp [compat, apartM, keysBelow, idHs, List.take_succ_cons, List.nil_append, List.take_nil, and_self]⟩
  simp (config := { maxSteps := 1000000 }) only [a1, a2, a3, a4, a5, a6, setv, reduceCtorEq, Nat.reduceEqDiff, Nat.reduceAdd, eq_self, decide_false,  true_and, List.getElem?_cons_zero, List.getElem?_cons_succ, Nat.zero_add, Nat.add_zero, frOf, den_o0, ↓gd_ff, ↓gd_ft, den_o1, kont_app, den_g, setv, den_skip, den_reg, den_seq, den_cond, den_block, ↓reduceIte, ↓e_box, ↓e_load, ↓e_mv, ↓e_pick, ↓e_fld, ↓e_bin, ↓e_len, ↓u_binV, ↓binI, Opd.ev, Sx.get, put, putO, del, dels, rd, SV.cells?]
  rw [den_loop]
  refine den_inv cF_ok (σ := Nat) (fun i => [(4, .int .i64 (i : Int)), (3, .int .i64 (l.length : Int)), (1, .ptr 1 0)])
    (fun i => [(1, ⟨.own 24, [.int .i64 e, .int .i64 n, .slc 0 0 18 l.length cap]⟩), (0, ⟨.view, mcs l⟩)]) (fun _ => 2)
    (fun i => i ≤ l.length ∧ (∀ (j : Nat) m, j < i → l[j]? = some m → okM m = true) ∧ (∀ (k j : Nat) (a b : Mb), j < i → k < j → l[k]? = some a → l[j]? = some b → a.name ≠ b.name ∧ a.pub ≠ b.pub)) (fun i => l.length - i) 0 ?_
    ⟨Nat.zero_le _, fun j m h => by omega, fun k j a b h => by omega⟩ ?_
  · exact ⟨[(0, 0), (1, 0)], by simp [ren_mcs, EntM, compat, apartM, keysBelow, eta, idHs, rd, SV.ren, SV.renL, Option.getD_some, List.length_cons, List.length_nil, Nat.zero_add, Nat.add_zero, Nat.reduceAdd, Nat.reduceLeDiff, ↓reduceIte, Kind.isOwn, List.take_succ_cons, List.take_zero, List.nil_append, and_self, true_and, exists_eq_left', Option.some.injEq, List.drop_zero, List.take_length, ne_eq, not_false_eq_true, implies_true, List.not_mem_nil, Bool.false_or, Bool.true_or, forall_const, List.mem_cons, or_false, forall_eq, Nat.succ_ne_self], by simp [frEnt, geto, eta, SV.ren, Option.getD_some, List.length_cons, List.length_nil, Nat.zero_add, Nat.add_zero, Nat.reduceAdd, Nat.reduceEqDiff, Nat.reduceLeDiff, ↓reduceIte, and_self, Nat.succ_ne_self]⟩
  rintro i ⟨hi, hok, hdf⟩
  by_cases h : i < l.length
  · have c1 : (i : Int) < (l.length : Int) := by omega
    have c2 : (0 : Int) ≤ (i : Int) := by omega
    have wi : IntKind.i64.wrap ((i : Int) + 1) = ((i + 1 : Nat) : Int) := by rw [wrap64_eq (by omega) (by omega)]; omega
    have q1 : i * 18 < l.length * 18 := by omega
    have q2 : i * 18 + 18 ≤ l.length * 18 := by omega
    obtain ⟨m, hm⟩ : ∃ m, l[i]? = some m := ⟨_, List.getElem?_eq_getElem h⟩
    have hmem := List.mem_of_getElem? hm
    have h16 := hP m hmem
    have g18 := take_row hP hm
    have ml := Mb.sv_len h16
    have m0 := mb0 m
    have m17 := mb17 h16
    have mp := mbpub h16
    have hbad : okM m = false → validB e n l = false := fun hb => validB_false (by rintro ⟨h1, _⟩; rw [h1 m hmem] at hb; cases hb)
    generalize hsv : m.sv = sv at *
    by_cases hb1 : m.name.length < 1
    · have d1 : (m.name.length : Int) < 1 := by omega
      have hv := hbad (by simp [okM, hb1])
      simp (config := { maxSteps := 1000000 }) only [c1, c2, q1, q2, hlen, g18, ml, m0, d1, hv, undef, setv, again_r, reduceCtorEq, Nat.reduceEqDiff, Nat.reduceAdd, eq_self, decide_true,  true_and, and_true, List.getElem?_cons_zero, List.getElem?_cons_succ, List.length_cons, List.length_nil, List.append_nil, List.nil_append, List.take_zero, List.drop_succ_cons, List.drop_nil, List.map_cons, List.map_nil, Nat.zero_add, Nat.add_zero, den_nil, den_o0, ↓gd_tt, ↓gd_tf, den_o1, kont_app, den_g, setv, Bool.not_false, den_skip, den_reg, Bool.not_false, den_seq, den_cond, den_block, den_ret, den_rb, den_rc, finE_r, ↓reduceIte, ↓e_load, ↓e_store, ↓e_idxS, ↓e_mv, ↓e_pick, ↓e_new, ↓e_fld, ↓e_bin, ↓e_len, ↓u_binV, ↓binI, ↓evRes, Opd.ev, Sx.get, put, putO, del, dels, rd, upd, splice, SV.cells?, retOf, SV.ren, Nat.le_refl, Int.toNat_natCast]
      exact ⟨[(0, 0)], rfl, by simp [compat, apartM, keysBelow, idHs, List.take_succ_cons, List.nil_append, List.take_nil, and_self]⟩
    have d1 : ¬ (m.name.length : Int) < 1 := by omega
    by_cases hb2 : m.name.length > 12
    · have d2 : (m.name.length : Int) > 12 := by omega
      have hv := hbad (by simp [okM, hb2])
      simp (config := { maxSteps := 1000000 }) only [c1, c2, q1, q2, hlen, g18, ml, m0, d1, d2, hv, undef, setv, again_r, reduceCtorEq, Nat.reduceEqDiff, Nat.reduceAdd, eq_self, decide_true, decide_false,  true_and, and_true, List.getElem?_cons_zero, List.getElem?_cons_succ, List.length_cons, List.length_nil, List.append_nil, List.nil_append, List.take_zero, List.drop_succ_cons, List.drop_nil, List.map_cons, List.map_nil, Nat.zero_add, Nat.add_zero, den_nil, den_o0, ↓gd_tt, ↓gd_ff, ↓gd_tf, ↓gd_ft, den_o1, kont_app, den_g, setv, Bool.not_false, den_skip, den_reg, Bool.not_false, den_seq, den_cond, den_block, den_ret, den_rb, den_rc, finE_r, ↓reduceIte, ↓e_load, ↓e_store, ↓e_idxS, ↓e_mv, ↓e_pick, ↓e_new, ↓e_fld, ↓e_bin, ↓e_len, ↓u_binV, ↓binI, ↓evRes, Opd.ev, Sx.get, put, putO, del, dels, rd, upd, splice, SV.cells?, retOf, SV.ren, Nat.le_refl, Int.toNat_natCast]
      exact ⟨[(0, 0)], rfl, by simp [compat, apartM, keysBelow, idHs, List.take_succ_cons, List.nil_append, List.take_nil, and_self]⟩
    have d2 : ¬ (m.name.length : Int) > 12 := by omega
    by_cases d3 : m.h < 0
    · have hv := hbad (by simp [okM, d3])
      simp (config := { maxSteps := 1000000 }) only [c1, c2, q1, q2, hlen, g18, ml, m0, m17, d1, d2, d3, hv, undef, setv, again_r, reduceCtorEq, Nat.reduceEqDiff, Nat.reduceAdd, eq_self, decide_true, decide_false,  true_and, and_true, List.getElem?_cons_zero, List.getElem?_cons_succ, List.length_cons, List.length_nil, List.append_nil, List.nil_append, List.take_zero, List.drop_succ_cons, List.drop_nil, List.map_cons, List.map_nil, Nat.zero_add, Nat.add_zero, den_nil, den_o0, ↓gd_tt, ↓gd_ff, ↓gd_tf, ↓gd_ft, den_o1, kont_app, den_g, setv, Bool.not_false, den_skip, den_reg, Bool.not_false, den_seq, den_cond, den_block, den_ret, den_rb, den_rc, finE_r, ↓reduceIte, ↓e_load, ↓e_store, ↓e_idxS, ↓e_mv, ↓e_pick, ↓e_new, ↓e_fld, ↓e_bin, ↓e_len, ↓u_binV, ↓binI, ↓evRes, Opd.ev, Sx.get, put, putO, del, dels, rd, upd, splice, SV.cells?, retOf, SV.ren, Nat.le_refl, Int.toNat_natCast]
      exact ⟨[(0, 0)], rfl, by simp [compat, apartM, keysBelow, idHs, List.take_succ_cons, List.nil_append, List.take_nil, and_self]⟩
    by_cases d4 : m.h > 6
    · have hv := hbad (by simp [okM, d4])
      simp (config := { maxSteps := 1000000 }) only [c1, c2, q1, q2, hlen, g18, ml, m0, m17, d1, d2, d3, d4, hv, setv, again_r, reduceCtorEq, Nat.reduceEqDiff, Nat.reduceAdd, eq_self, decide_true, decide_false,  true_and, and_true, List.getElem?_cons_zero, List.getElem?_cons_succ, List.length_cons, List.length_nil, List.append_nil, List.nil_append, List.take_zero, List.drop_succ_cons, List.drop_nil, List.map_cons, List.map_nil, Nat.zero_add, Nat.add_zero, den_nil, den_o0, ↓gd_tt, ↓gd_ff, ↓gd_ft, den_o1, kont_app, den_g, setv, den_skip, den_reg, den_seq, den_cond, den_block, den_ret, den_rb, den_rc, finE_r, ↓reduceIte, ↓e_load, ↓e_store, ↓e_idxS, ↓e_mv, ↓e_pick, ↓e_new, ↓e_fld, ↓e_bin, ↓e_len, ↓u_binV, ↓binI, ↓evRes, Opd.ev, Sx.get, put, putO, del, dels, rd, upd, splice, SV.cells?, retOf, SV.ren, Nat.le_refl, Int.toNat_natCast]
      exact ⟨[(0, 0)], rfl, by simp [compat, apartM, keysBelow, idHs, List.take_succ_cons, List.nil_append, List.take_nil, and_self]⟩
    have hokm : okM m = true := by simp [okM, hb1, hb2, d3, d4]
    simp (config := { maxSteps := 1000000 }) only [c1, c2, q1, q2, hlen, g18, ml, m0, m17, d1, d2, d3, d4, setv, reduceCtorEq, Nat.reduceEqDiff, Nat.reduceAdd, eq_self, decide_true, decide_false,  true_and, List.getElem?_cons_zero, List.getElem?_cons_succ, List.length_cons, List.length_nil, List.append_nil, List.nil_append, List.take_zero, List.drop_succ_cons, List.drop_nil, List.map_cons, List.map_nil, Nat.zero_add, Nat.add_zero, den_o0, ↓gd_tt, ↓gd_ff, ↓gd_ft, den_o1, kont_app, den_g, setv, den_skip, den_reg, den_seq, den_cond, den_block, ↓reduceIte, ↓e_load, ↓e_store, ↓e_idxS, ↓e_mv, ↓e_pick, ↓e_new, ↓e_fld, ↓e_bin, ↓e_len, ↓u_binV, ↓binI, Opd.ev, Sx.get, put, putO, del, dels, rd, upd, splice, SV.cells?, Nat.le_refl, Int.toNat_natCast]
    rw [den_loop]
    have hrsv : ∀ η, SV.renL η sv = sv := fun η => by rw [← hsv]; exact ren_mb η m
    refine den_inv cF_ok (σ := Nat) (fun k => [(6, .int .i64 (k : Int)), (5, .ptr 2 0), (4, .int .i64 (i : Int)), (3, .int .i64 (l.length : Int)), (1, .ptr 1 0)])
      (fun k => [(2, ⟨.own 47, sv⟩), (1, ⟨.own 24, [.int .i64 e, .int .i64 n, .slc 0 0 18 l.length cap]⟩), (0, ⟨.view, mcs l⟩)]) (fun _ => 3)
      (fun k => k ≤ i ∧ (∀ (q : Nat) (a : Mb), q < k → l[q]? = some a → a.name ≠ m.name ∧ a.pub ≠ m.pub)) (fun k => i - k) 0 ?_ ⟨Nat.zero_le _, fun q a h => by omega⟩ ?_
    · exact ⟨[(0, 0), (1, 0), (2, 0)], by simp [ren_mcs, hrsv, EntM, compat, apartM, keysBelow, eta, idHs, rd, SV.ren, SV.renL, Option.getD_some, List.length_cons, List.length_nil, Nat.zero_add, Nat.add_zero, Nat.reduceAdd, Nat.reduceLT, Nat.reduceLeDiff, ↓reduceIte, Kind.isOwn, List.take_succ_cons, List.take_zero, List.nil_append, and_self, true_and, exists_eq_left', Option.some.injEq, List.drop_zero, List.take_length, ne_eq, not_false_eq_true, implies_true, List.not_mem_nil, Bool.false_or, Bool.true_or, forall_const, reduceCtorEq, List.mem_cons, or_false, forall_eq_or_imp, forall_eq, Nat.succ_ne_self], by simp [frEnt, geto, eta, SV.ren, Option.getD_some, List.length_cons, List.length_nil, Nat.zero_add, Nat.add_zero, Nat.reduceAdd, Nat.reduceEqDiff, Nat.reduceLT, Nat.reduceLeDiff, ↓reduceIte, and_self, Nat.succ_ne_self]⟩
    rintro k ⟨hk, hne⟩
    by_cases hki : k < i
    · have e1 : (k : Int) < (i : Int) := by omega
      have e1' : (k : Int) < (l.length : Int) := by omega
      have e2 : (0 : Int) ≤ (k : Int) := by omega
      have wk : IntKind.i64.wrap ((k : Int) + 1) = ((k + 1 : Nat) : Int) := by rw [wrap64_eq (by omega) (by omega)]; omega
      have r1 : k * 18 < l.length * 18 := by omega
      have r2 : k * 18 + 1 + 16 ≤ l.length * 18 := by omega
      obtain ⟨x, hx⟩ : ∃ x, l[k]? = some x := ⟨_, List.getElem?_eq_getElem (by omega)⟩
      have hx16 := hP x (List.mem_of_getElem? hx)
      have gn : (mcs l)[k * 18]? = some (.str x.name) := cell_row hP hx (k := 0) (by decide)
      have gp : List.take 16 (List.drop (k * 18 + 1) (mcs l)) = bys x.pub := by
        have := take_row hP hx
        have h2 := mbpub hx16
        rw [← this, List.drop_take, List.take_take, List.drop_drop] at h2
        rw [← h2]
        congr 1
      have hbd : x.name = m.name ∨ x.pub = m.pub → validB e n l = false := fun hh => validB_false (by
        rintro ⟨_, _, hD⟩
        have := hD k i x m hki hx hm
        rcases hh with hh | hh
        · exact this.1 hh
        · exact this.2 hh)
      have hep := eq_pub hx16 h16
      by_cases hn : x.name = m.name
      · have hv := hbd (.inl hn)
        have hq : (x.name == m.name) = true := by simpa using hn
        simp (config := { maxSteps := 1000000 }) only [e1, e1', e2, r1, hlen, gn, m0, hq, hv, undef, setv, again_r, reduceCtorEq, Nat.reduceEqDiff, eq_self, decide_true,  true_and, and_true, List.getElem?_cons_zero, List.getElem?_cons_succ, Nat.zero_add, Nat.add_zero, den_nil, den_o0, ↓gd_tt, ↓gd_tf, den_o1, kont_app, den_g, setv, Bool.not_false, den_skip, den_reg, den_regP, Bool.not_false, den_seq, den_cond, den_block, den_ret, den_rb, den_rc, finE_r, ↓reduceIte, ↓e_load, ↓e_idxS, ↓e_mv, ↓e_pick, ↓e_fld, ↓e_bin, ↓u_binV, ↓binI, ↓binS, ↓evRes, Opd.ev, Sx.get, put, putO, del, dels, rd, retOf, SV.ren, Int.toNat_natCast]
        exact ⟨[(0, 0)], rfl, by simp [compat, apartM, keysBelow, idHs, List.take_succ_cons, List.nil_append, List.take_nil, and_self]⟩
      · have hq : (x.name == m.name) = false := by simpa using hn
        by_cases hp : x.pub = m.pub
        · have hv := hbd (.inr hp)
          have hq2 : (x.pub == m.pub) = true := by simpa using hp
          rw [hq2] at hep
          simp (config := { maxSteps := 1000000 }) only [e1, e1', e2, r1, r2, hlen, gn, gp, m0, ml, mp, hq, ↓hep, hv, setv, again_r, reduceCtorEq, Nat.reduceEqDiff, Nat.reduceAdd, Nat.reduceLeDiff, eq_self, decide_true,  true_and, and_true, List.getElem?_cons_zero, List.getElem?_cons_succ, Nat.zero_add, Nat.add_zero, den_nil, den_o0, ↓gd_tt, ↓gd_ff, ↓gd_ft, den_o1, kont_app, den_g, setv, den_skip, den_reg, den_regP, den_seq, den_cond, den_block, den_ret, den_rb, den_rc, finE_r, ↓reduceIte, ↓e_load, ↓e_idxS, ↓e_eqv, ↓e_mv, ↓e_pick, ↓e_fld, ↓e_bin, ↓u_binV, ↓binI, ↓binS, ↓evRes, Opd.ev, Sx.get, put, putO, del, dels, rd, retOf, SV.ren, Int.toNat_natCast]
          exact ⟨[(0, 0)], rfl, by simp [compat, apartM, keysBelow, idHs, List.take_succ_cons, List.nil_append, List.take_nil, and_self]⟩
        · have hq2 : (x.pub == m.pub) = false := by simpa using hp
          rw [hq2] at hep
          simp (config := { maxSteps := 1000000 }) only [e1, e1', e2, r1, r2, wk, hlen, gn, gp, m0, ml, mp, hq, ↓hep, setv, again_n, reduceCtorEq, Nat.reduceEqDiff, Nat.reduceAdd, Nat.reduceLeDiff, eq_self, decide_true,  true_and, List.getElem?_cons_zero, List.getElem?_cons_succ, Nat.zero_add, Nat.add_zero, den_nil, den_o0, ↓gd_tt, ↓gd_ff, ↓gd_ft, den_o1, kont_app, den_g, setv, den_skip, den_reg, den_regP, den_seq, den_cond, den_block, den_b, ↓reduceIte, ↓e_load, ↓e_idxS, ↓e_eqv, ↓e_mv, ↓e_pick, ↓e_fld, ↓e_bin, ↓u_binV, ↓binI, ↓binS, Opd.ev, Sx.get, put, putO, del, dels, rd, Int.toNat_natCast]
          refine ⟨k + 1, ⟨[(0, 0), (1, 0), (2, 0)], by simp [ren_mcs, hrsv, EntM, compat, apartM, keysBelow, eta, idHs, rd, SV.ren, SV.renL, Option.getD_some, List.length_cons, List.length_nil, Nat.zero_add, Nat.add_zero, Nat.reduceAdd, Nat.reduceLT, Nat.reduceLeDiff, ↓reduceIte, Kind.isOwn, List.take_succ_cons, List.take_zero, List.nil_append, and_self, true_and, exists_eq_left', Option.some.injEq, List.drop_zero, List.take_length, ne_eq, not_false_eq_true, implies_true, List.not_mem_nil, Bool.false_or, Bool.true_or, forall_const, reduceCtorEq, List.mem_cons, or_false, forall_eq_or_imp, forall_eq, Nat.succ_ne_self], by simp [frEnt, geto, eta, SV.ren, Option.getD_some, List.length_cons, List.length_nil, Nat.zero_add, Nat.add_zero, Nat.reduceAdd, Nat.reduceEqDiff, Nat.reduceLT, Nat.reduceLeDiff, ↓reduceIte, and_self, Nat.succ_ne_self]⟩, ⟨by omega, fun q a hq hx' => ?_⟩, by omega⟩
          rcases Nat.lt_or_ge q k with hqk | hqk
          · exact hne q a hqk hx'
          · obtain rfl : q = k := by omega
            rw [hx] at hx'; cases hx'; exact ⟨hn, hp⟩
    · obtain rfl : k = i := by omega
      have e1 : ¬ (k : Int) < (k : Int) := by omega
      simp (config := { maxSteps := 1000000 }) only [e1, wi, again_n, again_x, Nat.reduceEqDiff, eq_self, decide_false,  true_and, den_nil, den_o0, ↓gd_ft, den_o1, kont_app, den_reg, den_seq, den_cond, den_exit, den_b, den_xb, den_xc, ↓reduceIte, ↓e_mv, ↓e_bin, ↓u_binV, ↓binI, Opd.ev, Sx.get, put, putO, del, dels]
      refine ⟨k + 1, ⟨[(0, 0), (1, 0)], by simp [ren_mcs, EntM, compat, apartM, keysBelow, eta, idHs, rd, SV.ren, SV.renL, Option.getD_some, List.length_cons, List.length_nil, Nat.zero_add, Nat.add_zero, Nat.reduceAdd, Nat.reduceLeDiff, ↓reduceIte, Kind.isOwn, List.take_succ_cons, List.take_zero, List.nil_append, and_self, true_and, exists_eq_left', Option.some.injEq, List.drop_zero, List.take_length, ne_eq, not_false_eq_true, implies_true, List.not_mem_nil, Bool.false_or, Bool.true_or, forall_const, reduceCtorEq, List.mem_cons, or_false, forall_eq, Nat.succ_ne_self], by simp [frEnt, geto, eta, SV.ren, Option.getD_some, List.length_cons, List.length_nil, Nat.zero_add, Nat.add_zero, Nat.reduceAdd, Nat.reduceEqDiff, Nat.reduceLeDiff, ↓reduceIte, and_self, Nat.succ_ne_self]⟩, ⟨by omega, ?_, ?_⟩, by omega⟩
      · intro j x hj hx
        rcases Nat.lt_or_ge j k with h1 | h1
        · exact hok j x h1 hx
        · obtain rfl : j = k := by omega
          rw [hm] at hx; cases hx; exact hokm
      · intro q j a b hj hq ha hb
        rcases Nat.lt_or_ge j k with h1 | h1
        · exact hdf q j a b h1 hq ha hb
        · obtain rfl : j = k := by omega
          rw [hm] at hb; cases hb; exact hne q a hq ha
  · obtain rfl : i = l.length := by omega
    have c1 : ¬ (l.length : Int) < (l.length : Int) := by omega
    have hv : validB e n l = true := validB_iff.2 ⟨fun m hm => by
      obtain ⟨j, hj, rfl⟩ := List.mem_iff_getElem.1 hm
      exact hok j _ hj (List.getElem?_eq_getElem hj), ⟨by omega, by omega, by omega, by omega, by omega⟩, fun k j a b hk ha hb => hdf k j a b (List.getElem?_eq_some_iff.1 hb).1 hk ha hb⟩
    simp (config := { maxSteps := 1000000 }) only [c1, hv, again_x, Nat.reduceEqDiff, eq_self, decide_false,  true_and, and_true, den_nil, den_o0, ↓gd_ft, den_o1, kont_app, den_reg, den_seq, den_cond, den_exit, den_ret, den_xb, den_xc, finE_r, ↓reduceIte, ↓e_mv, ↓e_bin, ↓u_binV, ↓binI, ↓evRes, Opd.ev, Sx.get, put, putO, del, dels, retOf, SV.ren]
    exact ⟨[(0, 0)], rfl, by simp [compat, apartM, keysBelow, idHs, List.take_succ_cons, List.nil_append, List.take_nil, and_self]⟩
end Go.Proofs.YtkfbkooobfepeaaDoor

/- Same of custodians. -/
namespace Go.Proofs.YtkfbkooobfepeaaDoor
open Go Go.Sx Sf
set_option maxRecDepth 100000
set_option linter.unusedVariables false
variable {tS : List (Nat × List SV)}
instance decMb : DecidableEq Mb := fun a b => if h : eqM a b = true then isTrue (eqM_iff.1 h) else isFalse (fun h' => h (eqM_iff.2 h'))
def sameB (e n : Int) (l : List Mb) (e' n' : Int) (l' : List Mb) : Bool := decide (e = e' ∧ n = n' ∧ l = l')
theorem sameB_no {e n : Int} {l : List Mb} {e' n' : Int} {l' : List Mb} (h : ¬ (e = e' ∧ n = n' ∧ l = l')) : sameB e n l e' n' l' = false := decide_eq_false h
theorem sameB_yes {e n : Int} {l : List Mb} : sameB e n l e n l = true := decide_eq_true ⟨rfl, rfl, rfl⟩
set_option maxHeartbeats 8000000 in
theorem f14 (e n e' n' : Int) (l l' : List Mb) (hP : Pub l) (hP' : Pub l') (hl : l.length ≤ 9223372036854775807) (hl' : l'.length ≤ 9223372036854775807) (cap cap' : Option Nat) :
    Fun Tryd.prog tS 14 [.agg [.int .i64 e, .int .i64 n, .slc 0 0 18 l.length cap], .agg [.int .i64 e', .int .i64 n', .slc 1 0 18 l'.length cap']] [(0, ⟨.view, mcs l⟩), (1, ⟨.view, mcs l'⟩)] 2 (.bool (sameB e n l e' n' l')) [] 2 := by
  refine fun_any none cF cF_ok chk14 (show 2 ≤ 45 by decide) (by decide) ?_
  unfold sf14
  have hlen := len_mcs hP
  have hlen' := len_mcs hP'
  by_cases a1 : e = e'
  case neg =>
    have b1 : (e != e') = true := by simpa using a1
    have hv := sameB_no (e := e) (n := n) (l := l) (e' := e') (n' := n') (l' := l') (by rintro ⟨h, _⟩; exact a1 h)
    simp (config := { maxSteps := 1000000 }) only [b1, hv, undef, setv, reduceCtorEq, Nat.reduceEqDiff, Nat.reduceAdd, eq_self,  true_and, and_true, List.getElem?_cons_zero, Nat.zero_add, Nat.add_zero, frOf, den_nil, den_o0, ↓gd_tt, ↓gd_tf, den_o1, kont_app, den_g, setv, Bool.not_false, den_reg, Bool.not_false, den_seq, den_cond, den_ret, den_rc, finE_r, ↓reduceIte, ↓e_box, ↓e_load, ↓e_mv, ↓e_pick, ↓e_fld, ↓e_bin, ↓u_binV, ↓binI, ↓evRes, Opd.ev, Sx.get, put, putO, del, dels, rd, SV.cells?, retOf, SV.ren]
    exact ⟨[(0, 0), (1, 0)], rfl, by simp [compat, apartM, keysBelow, idHs, List.take_succ_cons, List.nil_append, List.cons_append, List.take_nil, and_self]⟩
  subst a1
  by_cases a2 : n = n'
  case neg =>
    have b1 : (n != n') = true := by simpa using a2
    have hv := sameB_no (e := e) (n := n) (l := l) (e' := e) (n' := n') (l' := l') (by rintro ⟨_, h, _⟩; exact a2 h)
    simp (config := { maxSteps := 1000000 }) only [bne_self_eq_false, b1, hv, undef, setv, reduceCtorEq, Nat.reduceEqDiff, Nat.reduceAdd, eq_self,  true_and, and_true, List.getElem?_cons_zero, List.getElem?_cons_succ, Nat.zero_add, Nat.add_zero, frOf, den_nil, den_o0, ↓gd_tt, ↓gd_ff, ↓gd_tf, ↓gd_ft, den_o1, kont_app, den_g, setv, Bool.not_false, den_reg, Bool.not_false, den_seq, den_cond, den_ret, den_rc, finE_r, ↓reduceIte, ↓e_box, ↓e_load, ↓e_mv, ↓e_pick, ↓e_fld, ↓e_bin, ↓u_binV, ↓binI, ↓evRes, Opd.ev, Sx.get, put, putO, del, dels, rd, SV.cells?, retOf, SV.ren]
    exact ⟨[(0, 0), (1, 0)], rfl, by simp [compat, apartM, keysBelow, idHs, List.take_succ_cons, List.nil_append, List.cons_append, List.take_nil, and_self]⟩
  subst a2
  by_cases a3 : l.length = l'.length
  case neg =>
    have b1 : ((l.length : Int) != (l'.length : Int)) = true := by rw [bne_iff_ne]; omega
    have hv := sameB_no (e := e) (n := n) (l := l) (e' := e) (n' := n) (l' := l') (by rintro ⟨_, _, h⟩; rw [h] at a3; exact a3 rfl)
    simp (config := { maxSteps := 1000000 }) only [bne_self_eq_false, b1, hv, setv, reduceCtorEq, Nat.reduceEqDiff, Nat.reduceAdd, eq_self,  true_and, and_true, List.getElem?_cons_zero, List.getElem?_cons_succ, Nat.zero_add, Nat.add_zero, frOf, den_nil, den_o0, ↓gd_tt, ↓gd_ff, ↓gd_ft, den_o1, kont_app, den_g, setv, den_reg, den_seq, den_cond, den_ret, den_rc, finE_r, ↓reduceIte, ↓e_box, ↓e_load, ↓e_mv, ↓e_pick, ↓e_fld, ↓e_bin, ↓e_len, ↓u_binV, ↓binI, ↓evRes, Opd.ev, Sx.get, put, putO, del, dels, rd, SV.cells?, retOf, SV.ren]
    exact ⟨[(0, 0), (1, 0)], rfl, by simp [compat, apartM, keysBelow, idHs, List.take_succ_cons, List.nil_append, List.cons_append, List.take_nil, and_self]⟩
  have b3 : ((l.length : Int) != (l'.length : Int)) = false := by rw [a3]; simp
  simp (config := { maxSteps := 1000000 }) only [b3, bne_self_eq_false, setv, reduceCtorEq, Nat.reduceEqDiff, Nat.reduceAdd, eq_self,  true_and, List.getElem?_cons_zero, List.getElem?_cons_succ, Nat.zero_add, Nat.add_zero, frOf, den_o0, ↓gd_ff, ↓gd_ft, den_o1, kont_app, den_g, setv, den_skip, den_reg, den_seq, den_cond, den_block, ↓reduceIte, ↓e_box, ↓e_load, ↓e_mv, ↓e_pick, ↓e_fld, ↓e_bin, ↓e_len, ↓u_binV, ↓binI, Opd.ev, Sx.get, put, putO, del, dels, rd, SV.cells?]
  rw [den_loop]
  refine den_inv cF_ok (σ := Nat) (fun i => [(5, .int .i64 (i : Int)), (3, .ptr 3 0), (2, .ptr 2 0)])
    (fun i => [(3, ⟨.own 24, [.int .i64 e, .int .i64 n, .slc 1 0 18 l'.length cap']⟩), (2, ⟨.own 24, [.int .i64 e, .int .i64 n, .slc 0 0 18 l.length cap]⟩), (0, ⟨.view, mcs l⟩), (1, ⟨.view, mcs l'⟩)]) (fun _ => 4)
    (fun i => i ≤ l.length ∧ ∀ (k : Nat) (a b : Mb), k < i → l[k]? = some a → l'[k]? = some b → a = b) (fun i => l.length - i) 0 ?_ ⟨Nat.zero_le _, fun k a b h => by omega⟩ ?_
  · exact ⟨[(0, 0), (1, 0), (2, 0), (3, 0)], by simp [ren_mcs, EntM, compat, apartM, keysBelow, eta, idHs, rd, SV.ren, SV.renL, Option.getD_some, List.length_cons, List.length_nil, Nat.zero_add, Nat.add_zero, Nat.reduceAdd, Nat.reduceEqDiff, Nat.reduceLT, Nat.reduceLeDiff, ↓reduceIte, Kind.isOwn, List.take_succ_cons, List.take_zero, List.nil_append, List.cons_append, and_self, true_and, exists_eq_left', Option.some.injEq, List.drop_zero, List.take_length, ne_eq, not_false_eq_true, implies_true, List.not_mem_nil, Bool.false_or, Bool.true_or, forall_const, reduceCtorEq, List.mem_cons, or_false, forall_eq_or_imp, forall_eq, Nat.succ_ne_self], by simp [frEnt, geto, eta, SV.ren, Option.getD_some, List.length_cons, List.length_nil, Nat.zero_add, Nat.add_zero, Nat.reduceAdd, Nat.reduceEqDiff, Nat.reduceLT, Nat.reduceLeDiff, ↓reduceIte, and_self, Nat.succ_ne_self]⟩
  rintro i ⟨hi, hs⟩
  by_cases h : i < l.length
  · have c1 : (i : Int) < (l.length : Int) := by omega
    have c1' : (i : Int) < (l'.length : Int) := by omega
    have c2 : (0 : Int) ≤ (i : Int) := by omega
    have wi : IntKind.i64.wrap ((i : Int) + 1) = ((i + 1 : Nat) : Int) := by rw [wrap64_eq (by omega) (by omega)]; omega
    have q1 : i * 18 < l.length * 18 := by omega
    have q2 : i * 18 + 18 ≤ l.length * 18 := by omega
    have q1' : i * 18 < l'.length * 18 := by omega
    have q2' : i * 18 + 18 ≤ l'.length * 18 := by omega
    obtain ⟨m, hm⟩ : ∃ m, l[i]? = some m := ⟨_, List.getElem?_eq_getElem h⟩
    obtain ⟨m', hm'⟩ : ∃ m, l'[i]? = some m := ⟨_, List.getElem?_eq_getElem (by omega)⟩
    have g1 := take_row hP hm
    have g2 := take_row hP' hm'
    have he := eq_mb (hP m (List.mem_of_getElem? hm)) (hP' m' (List.mem_of_getElem? hm'))
    have ml := Mb.sv_len (hP m (List.mem_of_getElem? hm))
    have ml' := Mb.sv_len (hP' m' (List.mem_of_getElem? hm'))
    cases hq : eqM m m' with
    | false =>
      rw [hq] at he
      have hv := sameB_no (e := e) (n := n) (l := l) (e' := e) (n' := n) (l' := l') (by
        rintro ⟨_, _, h⟩
        rw [h, hm'] at hm
        cases hm
        rw [eqM_iff.2 rfl] at hq
        cases hq)
      generalize m.sv = sv at *
      generalize m'.sv = sv' at *
      simp (config := { maxSteps := 1000000 }) only [c1, c1', c2, q1, q2, q1', q2', hlen, hlen', g1, g2, ↓he, hv, again_r, reduceCtorEq, Nat.reduceEqDiff, eq_self, decide_true,  true_and, and_true, List.getElem?_cons_zero, List.getElem?_cons_succ, Nat.zero_add, den_nil, den_o0, ↓gd_tt, den_o1, kont_app, Bool.not_false, den_skip, den_reg, den_regP, Bool.not_false, den_seq, den_cond, den_block, den_ret, den_rb, den_rc, finE_r, ↓reduceIte, ↓e_load, ↓e_idxS, ↓e_eqv, ↓e_mv, ↓e_fld, ↓e_bin, ↓e_len, ↓u_binV, ↓binI, ↓evRes, Opd.ev, Sx.get, put, putO, del, dels, rd, retOf, SV.ren, Int.toNat_natCast]
      exact ⟨[(0, 0), (1, 0)], rfl, by simp [compat, apartM, keysBelow, idHs, List.take_succ_cons, List.nil_append, List.cons_append, List.take_nil, and_self]⟩
    | true =>
      rw [hq] at he
      have hmm := eqM_iff.1 hq
      generalize m.sv = sv at *
      generalize m'.sv = sv' at *
      simp (config := { maxSteps := 1000000 }) only [c1, c1', c2, wi, q1, q2, q1', q2', hlen, hlen', g1, g2, ↓he, again_n, reduceCtorEq, Nat.reduceEqDiff, eq_self, decide_true,  true_and, List.getElem?_cons_zero, List.getElem?_cons_succ, Nat.zero_add, den_nil, den_o0, ↓gd_tt, ↓gd_ft, den_o1, kont_app, Bool.not_true, den_skip, den_reg, den_regP, Bool.not_true, den_seq, den_cond, den_block, den_b, ↓reduceIte, ↓e_load, ↓e_idxS, ↓e_eqv, ↓e_mv, ↓e_fld, ↓e_bin, ↓e_len, ↓u_binV, ↓binI, Opd.ev, Sx.get, put, putO, del, dels, rd, Int.toNat_natCast]
      refine ⟨i + 1, ⟨[(0, 0), (1, 0), (2, 0), (3, 0)], by simp [ren_mcs, EntM, compat, apartM, keysBelow, eta, idHs, rd, SV.ren, SV.renL, Option.getD_some, List.length_cons, List.length_nil, Nat.zero_add, Nat.add_zero, Nat.reduceAdd, Nat.reduceEqDiff, Nat.reduceLT, Nat.reduceLeDiff, ↓reduceIte, Kind.isOwn, List.take_succ_cons, List.take_zero, List.nil_append, List.cons_append, and_self, true_and, exists_eq_left', Option.some.injEq, List.drop_zero, List.take_length, ne_eq, not_false_eq_true, implies_true, List.not_mem_nil, Bool.false_or, Bool.true_or, forall_const, reduceCtorEq, List.mem_cons, or_false, forall_eq_or_imp, forall_eq, Nat.succ_ne_self], by simp [frEnt, geto, eta, SV.ren, Option.getD_some, List.length_cons, List.length_nil, Nat.zero_add, Nat.add_zero, Nat.reduceAdd, Nat.reduceEqDiff, Nat.reduceLT, Nat.reduceLeDiff, ↓reduceIte, and_self, Nat.succ_ne_self]⟩, ⟨by omega, fun k a b hk ha hb => ?_⟩, by omega⟩
      rcases Nat.lt_or_ge k i with h1 | h1
      · exact hs k a b h1 ha hb
      · obtain rfl : k = i := by omega
        rw [hm] at ha; rw [hm'] at hb; cases ha; cases hb; exact hmm
  · obtain rfl : i = l.length := by omega
    have c1 : ¬ (l.length : Int) < (l.length : Int) := by omega
    have hll : l = l' := by
      apply List.ext_getElem a3
      intro k h1 h2
      exact hs k _ _ h1 (List.getElem?_eq_getElem h1) (List.getElem?_eq_getElem h2)
    have hv : sameB e n l e n l' = true := by rw [← hll]; exact sameB_yes
    simp (config := { maxSteps := 1000000 }) only [c1, hv, again_x, Nat.reduceEqDiff, eq_self, decide_false,  true_and, and_true, List.getElem?_cons_zero, List.getElem?_cons_succ, Nat.zero_add, den_nil, den_o0, ↓gd_ft, den_o1, kont_app, den_reg, den_seq, den_cond, den_exit, den_ret, den_xb, den_xc, finE_r, ↓reduceIte, ↓e_load, ↓e_mv, ↓e_fld, ↓e_bin, ↓e_len, ↓u_binV, ↓binI, ↓evRes, Opd.ev, Sx.get, put, putO, del, dels, rd, retOf, SV.ren]
    exact ⟨[(0, 0), (1, 0)], rfl, by simp [compat, apartM, keysBelow, idHs, List.take_succ_cons, List.nil_append, List.cons_append, List.take_nil, and_self]⟩
theorem f14n (e n e' n' : Int) : Fun Tryd.prog tS 14 [.agg [.int .i64 e, .int .i64 n, .val (.slice none 0 0)], .agg [.int .i64 e', .int .i64 n', .val (.slice none 0 0)]] [] 0 (.bool (sameB e n [] e' n' [])) [] 0 := by
  refine fun_any (some 2) cF cF_ok chk14 (show 2 ≤ 45 by decide) (by decide) ?_
  unfold sf14
  by_cases a1 : e = e'
  case neg =>
    have b1 : (e != e') = true := by simpa using a1
    have hv := sameB_no (e := e) (n := n) (l := []) (e' := e') (n' := n') (l' := []) (by rintro ⟨h, _⟩; exact a1 h)
    simp (config := { maxSteps := 1000000 }) only [b1, hv, undef, setv, reduceCtorEq, Nat.reduceEqDiff, Nat.reduceAdd, eq_self,  true_and, and_true, List.getElem?_cons_zero, Nat.zero_add, Nat.add_zero, frOf, den_nil, den_o0, ↓gd_tt, ↓gd_tf, den_o1, kont_app, den_g, setv, Bool.not_false, den_reg, Bool.not_false, den_seq, den_cond, den_ret, den_rc, finE_r, ↓reduceIte, ↓e_box, ↓e_load, ↓e_mv, ↓e_pick, ↓e_fld, ↓e_bin, ↓u_binV, ↓binI, ↓evRes, Opd.ev, Sx.get, put, putO, del, dels, rd, SV.cells?, retOf, SV.ren]
    exact ⟨[], rfl, by simp [compat, apartM, keysBelow, idHs, List.take_nil, and_self]⟩
  subst a1
  by_cases a2 : n = n'
  case neg =>
    have b1 : (n != n') = true := by simpa using a2
    have hv := sameB_no (e := e) (n := n) (l := []) (e' := e) (n' := n') (l' := []) (by rintro ⟨_, h, _⟩; exact a2 h)
    simp (config := { maxSteps := 1000000 }) only [bne_self_eq_false, b1, hv, undef, setv, reduceCtorEq, Nat.reduceEqDiff, Nat.reduceAdd, eq_self,  true_and, and_true, List.getElem?_cons_zero, List.getElem?_cons_succ, Nat.zero_add, Nat.add_zero, frOf, den_nil, den_o0, ↓gd_tt, ↓gd_ff, ↓gd_tf, ↓gd_ft, den_o1, kont_app, den_g, setv, Bool.not_false, den_reg, Bool.not_false, den_seq, den_cond, den_ret, den_rc, finE_r, ↓reduceIte, ↓e_box, ↓e_load, ↓e_mv, ↓e_pick, ↓e_fld, ↓e_bin, ↓u_binV, ↓binI, ↓evRes, Opd.ev, Sx.get, put, putO, del, dels, rd, SV.cells?, retOf, SV.ren]
    exact ⟨[], rfl, by simp [compat, apartM, keysBelow, idHs, List.take_nil, and_self]⟩
  subst a2
  have hv : sameB e n [] e n [] = true := sameB_yes
  simp (config := { maxSteps := 1000000 }) only [bne_self_eq_false, hv, setv, reduceCtorEq, Nat.reduceEqDiff, Nat.reduceAdd, Int.reduceLT, eq_self, decide_false,  true_and, and_true, List.getElem?_cons_zero, List.getElem?_cons_succ, Nat.zero_add, Nat.add_zero, frOf, den_nil, den_o0, ↓gd_ff, ↓gd_ft, den_o1, kont_app, den_g, setv, den_skip, den_reg, den_seq, den_cond, den_block, den_exit, den_ret, den_xb, den_xc, den_xu, den_u, den_loopU, finE_r, ↓reduceIte, ↓e_box, ↓e_load, ↓e_mv, ↓e_pick, ↓e_fld, ↓e_bin, ↓e_len, ↓u_binV, ↓binI, ↓evRes, Opd.ev, Sx.get, put, putO, del, dels, rd, SV.cells?, retOf, SV.ren]
  exact ⟨[], rfl, by simp [compat, apartM, keysBelow, idHs, List.take_nil, and_self]⟩
def gSameC : GS
  | [.agg [.int .i64 e, .int .i64 n, .slc 0 0 18 len _], .agg [.int .i64 e', .int .i64 n', .slc 1 0 18 len' _]], [(0, ⟨.view, cells⟩), (1, ⟨.view, cells'⟩)] => match unM cells.length cells, unM cells'.length cells' with
    | some l, some l' => if len = l.length ∧ len' = l'.length then (match Nat.ble l.length 9223372036854775807, Nat.ble l'.length 9223372036854775807 with
      | true, true => some (.bool (sameB e n l e' n' l'), [], 2)
      | _, _ => none) else none
    | _, _ => none
  | [.agg [.int .i64 e, .int .i64 n, .val (.slice none 0 0)], .agg [.int .i64 e', .int .i64 n', .val (.slice none 0 0)]], [] => some (.bool (sameB e n [] e' n' []), [], 0)
  | _, _ => none
theorem gSameC_ok : FunS Tryd.prog tS 14 gSameC := by
  intro a0 m0 r m1 n1 h
  unfold gSameC at h
  split at h
  · split at h
    · rename_i l l' hl hl'
      split at h
      · rename_i hc
        obtain ⟨h1, h2⟩ := hc
        split at h
        · rename_i b1 b2
          cases h
          subst h1; subst h2
          obtain ⟨rfl, hP⟩ := unM_some hl
          obtain ⟨rfl, hP'⟩ := unM_some hl'
          exact ⟨f14 _ _ _ _ l l' hP hP' (Nat.le_of_ble_eq_true b1) (Nat.le_of_ble_eq_true b2) _ _, by simp [freshB]⟩
        · cases h
      · cases h
    · cases h
  · cases h; exact ⟨f14n _ _ _ _, by simp [freshB]⟩
  · cases h
def gValidR : GS
  | [.agg [.int .i64 e, .int .i64 n, .slc 0 0 18 len _]], [(0, ⟨.view, cells⟩)] => match unM cells.length cells with
    | some l => if len = l.length then (match Nat.ble l.length 9223372036854775807 with
      | true => some (.bool (validB e n l), [], 1)
      | false => none) else none
    | none => none
  | _, _ => none
theorem gValidR_ok : FunS Tryd.prog tS 13 gValidR := by
  intro a0 m0 r m1 n1 h
  unfold gValidR at h
  split at h
  · split at h
    · rename_i l hl
      split at h
      · rename_i he
        split at h
        · rename_i hb
          cases h
          subst he
          obtain ⟨rfl, hP⟩ := unM_some hl
          exact ⟨f13 _ _ l hP (Nat.le_of_ble_eq_true hb) _, by simp [freshB]⟩
        · cases h
      · cases h
    · cases h
  · cases h
end Go.Proofs.YtkfbkooobfepeaaDoor

/- Encode of package custodian. -/
namespace Go.Proofs.YtkfbkooobfepeaaDoor
open Go Go.Sx Sf
set_option maxRecDepth 100000
set_option linter.unusedVariables false
variable {tS : List (Nat × List SV)}
def tabEn : List (FuncId × GS) := [(31, gInts), (32, gCat), (33, gBytes), (34, gInt)]
theorem tabEn_ok : ∀ x ∈ tabEn, FunS Tryd.prog tS x.1 x.2 := by
  intro x hx
  simp only [tabEn, List.mem_cons, List.not_mem_nil, or_false] at hx
  rcases hx with rfl | rfl | rfl | rfl
  · exact gInts_ok
  · exact gCat_ok
  · exact gBytes_ok
  · exact gInt_ok
def encMb (m : Mb) : List UInt8 := encS m.name ++ m.pub ++ encI m.h
def encMs : List Mb → List UInt8
  | [] => []
  | m :: l => encMb m ++ encMs l
def encodeS (e n : Int) (l : List Mb) : List UInt8 := encIs [e, n, (l.length : Int)] ++ encMs l
set_option maxHeartbeats 8000000 in
theorem f18 (e n : Int) (l : List Mb) (hP : Pub l) (hl : l.length ≤ 9223372036854775807) (hT : (encodeS e n l).length ≤ 2 ^ 38) (cap : Option Nat) :
    Fun Tryd.prog tS 18 [.agg [.int .i64 e, .int .i64 n, .slc 0 0 18 l.length cap]] [(0, ⟨.view, mcs l⟩)] 1 (.str (encodeS e n l)) [] 1 := by
  refine fun_any none (callS tabEn cF) (callS_ok tabEn_ok cF_ok) chk18 (show 1 ≤ 36 by decide) (by decide) ?_
  unfold sf18
  have hlen := len_mcs hP
  have h3 := encIs3 e n (l.length : Int)
  simp (config := { maxSteps := 1000000 }) only [tabEn, gInts, unI, SV.flatL, SV.flat, Bool.and_self, and_self, lookF, reduceCtorEq, Nat.reduceEqDiff, Nat.reduceAdd, Nat.reduceSub, Nat.reduceLeDiff, Nat.reduceLT, eq_self,  true_and, List.getElem?_cons_zero, List.getElem?_cons_succ, List.length_cons, List.length_nil, List.append_nil, List.nil_append, List.cons_append, List.take_succ_cons, List.take_zero, List.drop_succ_cons, List.drop_zero, List.take_nil, List.drop_nil, List.map_cons, List.map_nil, Nat.zero_add, Nat.add_zero, frOf, den_o0, den_o1, kont_app, den_reg, den_seq, den_block, ↓reduceIte, ↓e_box, ↓e_bslice, ↓e_load, ↓e_mv, ↓e_fld, ↓e_call, ↓e_len, ↓fillE, Opd.ev, Sx.get, put, putO, del, dels, rd, splice, SV.cells?, SV.one, ↓u_callS, canLW, canV, canC, belowL, apH, apH1, eta, SV.ren, newOwn, targets, rms, Kind.isOwn, ren_bytes, List.getElem?_nil, Option.getD_none, Nat.le_refl, Nat.mul_one]
  rw [den_loop]
  refine den_inv (callS_ok tabEn_ok cF_ok) (σ := Nat × List UInt8) (fun s => [(18, .int .i64 (s.1 : Int)), (17, .int .i64 (l.length : Int)), (16, .slc 0 0 18 l.length cap), (3, .slc 2 0 1 s.2.length none)])
    (fun s => [(2, ⟨.own 5, bys s.2⟩), (0, ⟨.view, mcs l⟩)]) (fun _ => 3) (fun s => s.1 ≤ l.length ∧ s.2 ++ encMs (l.drop s.1) = encodeS e n l) (fun s => l.length - s.1) (0, encIs [e, n, (l.length : Int)]) ?_ ⟨Nat.zero_le _, rfl⟩ ?_
  · exact ⟨[(0, 0), (1, 0), (3, 0)], by simp [ren_mcs, EntM, compat, apartM, keysBelow, eta, idHs, rd, Option.getD_some, List.length_cons, List.length_nil, Nat.zero_add, Nat.add_zero, Nat.reduceAdd, Nat.reduceLeDiff, ↓reduceIte, Kind.isOwn, List.take_succ_cons, List.take_zero, List.nil_append, and_self, true_and, exists_eq_left', Option.some.injEq, List.drop_zero, List.take_length, ne_eq, not_false_eq_true, implies_true, List.not_mem_nil, Bool.false_or, Bool.true_or, forall_const, reduceCtorEq, List.mem_cons, or_false, forall_eq, Nat.succ_ne_self, ren_bytes], by simp [frEnt, geto, eta, SV.ren, Option.getD_some, List.length_cons, List.length_nil, Nat.zero_add, Nat.add_zero, Nat.reduceAdd, Nat.reduceEqDiff, Nat.reduceLeDiff, ↓reduceIte, and_self, Nat.succ_ne_self]⟩
  · rintro ⟨i, pre⟩ ⟨hi, hpre⟩
    simp only at hi hpre
    have hlen0 := congrArg List.length hpre
    simp only [List.length_append] at hlen0
    by_cases h : i < l.length
    · have c1 : (i : Int) < (l.length : Int) := by omega
      have c2 : (0 : Int) ≤ (i : Int) := by omega
      have wi : IntKind.i64.wrap ((i : Int) + 1) = ((i + 1 : Nat) : Int) := by rw [wrap64_eq (by omega) (by omega)]; omega
      have q1 : i * 18 < l.length * 18 := by omega
      have q2 : i * 18 + 18 ≤ l.length * 18 := by omega
      obtain ⟨m, hm⟩ : ∃ m, l[i]? = some m := ⟨_, List.getElem?_eq_getElem h⟩
      have hd : l.drop i = m :: l.drop (i + 1) := by
        rw [List.drop_eq_getElem_cons h]
        rw [List.getElem?_eq_getElem h] at hm; cases hm; rfl
      have h16 := hP m (List.mem_of_getElem? hm)
      have g18 := take_row hP hm
      have ml := Mb.sv_len h16
      have m0 := mb0 m
      have m17 := mb17 h16
      have mp := mbpub h16
      rw [hd] at hpre
      simp only [encMs, encMb, ← List.append_assoc] at hpre
      have hlen2 := congrArg List.length hpre
      simp only [List.length_append] at hlen2
      have hq := encI_len m.h
      have hsl : (encS m.name).length = (encI m.name.length).length + m.name.length := by simp [encS]
      have k1 : m.name.length ≤ 2 ^ 39 := by omega
      have k2 : 0 < (pre ++ encS m.name ++ m.pub ++ encI m.h).length := by simp only [List.length_append, encI, List.length_cons]; omega
      have k3 : (pre ++ encS m.name ++ m.pub ++ encI m.h).length ≤ 2 ^ 38 := by simp only [List.length_append]; omega
      have hrsv : ∀ η, SV.renL η m.sv = m.sv := fun η => ren_mb η m
      generalize hsv : m.sv = sv at *
      simp (config := { maxSteps := 1000000 }) only [gCat, gBytes, gInt, unB_bytes, c1, c2, wi, q1, q2, hlen, g18, ml, m0, m17, mp, k1, k2, k3, h16, SV.flatL, SV.flat, Bool.and_true, Bool.and_self, and_self, lookF, again_n, reduceCtorEq, Nat.reduceEqDiff, Nat.reduceAdd, Nat.reduceSub, Nat.reduceLeDiff, Nat.reduceLT, Int.reduceToNat, Int.reduceLE, false_imp_iff, eq_self, decide_true, Int.cast_ofNat_Int,  true_and, List.getElem?_cons_zero, List.getElem?_cons_succ, List.length_cons, List.length_nil, List.append_nil, List.nil_append, List.cons_append, List.take_succ_cons, List.take_zero, List.drop_succ_cons, List.drop_zero, List.take_nil, List.drop_nil, List.reverse_cons, List.reverse_nil, List.map_cons, List.map_nil, Nat.zero_add, Nat.add_zero, den_nil, den_o0, ↓gd_tt, den_o1, kont_app, den_skip, den_reg, den_regD, den_A, Bool.or_self, den_seq, den_cond, den_block, den_b, ↓reduceIte, ↓e_bslice, ↓e_load, ↓e_store, ↓e_idxS, ↓e_mv, ↓e_new, ↓e_fld, ↓e_bin, ↓e_slcA, ↓e_call, ↓u_onOpt0, ↓u_binV, ↓binI, ↓fillE, evA, Opd.ev, Sx.get, put, putO, del, dels, frD, memD, pickD, kills, views, newer, rd, upd, splice, SV.cells?, SV.one, ↓u_callS, canLW, canV, canC, belowL, apH, apH1, eta, SV.ren, newOwn, targets, rms, Kind.isOwn, ren_bytes, List.getElem?_nil, Option.getD_none, Nat.sub_zero, Nat.le_refl, take_bytes, len_bytes, flat_bytes, Int.toNat_natCast, Nat.mul_one, Int.cast_ofNat_Int]
      exact ⟨(i + 1, _), ⟨[(0, 0), (1, 0), (7, 0)], by simp [ren_mcs, EntM, compat, apartM, keysBelow, eta, idHs, rd, Option.getD_some, List.length_cons, List.length_nil, Nat.zero_add, Nat.add_zero, Nat.reduceAdd, Nat.reduceLeDiff, ↓reduceIte, Kind.isOwn, List.take_succ_cons, List.take_zero, List.nil_append, and_self, true_and, exists_eq_left', Option.some.injEq, List.drop_zero, List.take_length, ne_eq, not_false_eq_true, implies_true, List.not_mem_nil, Bool.false_or, Bool.true_or, forall_const, reduceCtorEq, List.mem_cons, or_false, forall_eq, ren_bytes], by simp [frEnt, geto, eta, SV.ren, Option.getD_some, List.length_cons, List.length_nil, Nat.zero_add, Nat.add_zero, Nat.reduceAdd, Nat.reduceEqDiff, Nat.reduceLeDiff, ↓reduceIte, and_self, Nat.succ_ne_self]⟩, ⟨by simp only; omega, hpre⟩, by simp only; omega⟩
    · obtain rfl : i = l.length := by omega
      simp only [List.drop_length, encMs, List.append_nil] at hpre
      subst hpre
      have c1 : ¬ (l.length : Int) < (l.length : Int) := by omega
      simp (config := { maxSteps := 1000000 }) only [c1, again_x, Nat.reduceEqDiff, eq_self, decide_false,  true_and, List.drop_zero, Nat.zero_add, den_nil, den_o0, ↓gd_ft, den_o1, kont_app, den_reg, den_seq, den_cond, den_exit, den_ret, den_xb, den_xc, finE_r, ↓reduceIte, ↓e_b2s, ↓e_mv, ↓e_bin, ↓u_binV, ↓u_srcSl, ↓binI, ↓evRes, Opd.ev, Sx.get, put, putO, del, dels, rd, retOf, SV.ren, Nat.le_refl, take_bytes, len_bytes, Nat.mul_one]
      exact ⟨all_isU8 _, [(0, 0)], ⟨rfl, by simp [compat, apartM, keysBelow, idHs, List.take_succ_cons, List.nil_append, List.take_nil, and_self]⟩, by rw [map_byteOf]⟩
theorem f18n (e n : Int) : Fun Tryd.prog tS 18 [.agg [.int .i64 e, .int .i64 n, .val (.slice none 0 0)]] [] 0 (.str (encodeS e n [])) [] 0 := by
  refine fun_any (some 2) (callS tabEn cF) (callS_ok tabEn_ok cF_ok) chk18 (show 1 ≤ 36 by decide) (by decide) ?_
  unfold sf18
  have hq : encIs [e, n, 0] = encodeS e n [] := by simp [encodeS, encMs]
  simp (config := { maxSteps := 1000000 }) only [tabEn, gInts, unI, hq, SV.flatL, SV.flat, Bool.and_self, and_self, lookF, reduceCtorEq, Nat.reduceEqDiff, Nat.reduceAdd, Nat.reduceSub, Nat.reduceLeDiff, Nat.reduceLT, Int.reduceLT, eq_self, decide_false,  true_and, List.getElem?_cons_zero, List.getElem?_cons_succ, List.length_cons, List.length_nil, List.append_nil, List.nil_append, List.cons_append, List.take_succ_cons, List.take_zero, List.drop_succ_cons, List.drop_zero, List.take_nil, List.drop_nil, List.map_cons, List.map_nil, Nat.zero_add, Nat.add_zero, frOf, den_nil, den_o0, ↓gd_ft, den_o1, kont_app, den_reg, den_seq, den_cond, den_block, den_exit, den_ret, den_xb, den_xc, den_xu, den_u, den_loopU, finE_r, ↓reduceIte, ↓e_box, ↓e_bslice, ↓e_load, ↓e_b2s, ↓e_mv, ↓e_fld, ↓e_bin, ↓e_call, ↓e_len, ↓u_binV, ↓u_srcSl, ↓binI, ↓fillE, ↓evRes, Opd.ev, Sx.get, put, putO, del, dels, rd, splice, SV.cells?, SV.one, retOf, ↓u_callS, canLW, canV, canC, belowL, apH, apH1, eta, SV.ren, newOwn, targets, rms, Kind.isOwn, ren_bytes, List.getElem?_nil, Option.getD_none, Nat.le_refl, take_bytes, len_bytes, Nat.mul_one]
  exact ⟨all_isU8 _, [], by simp [EntM, compat, apartM, keysBelow, idHs, List.length_nil, List.take_nil, and_self], by rw [map_byteOf]⟩
def gEncode : GS
  | [.agg [.int .i64 e, .int .i64 n, .slc 0 0 18 len _]], [(0, ⟨.view, cells⟩)] => match unM cells.length cells with
    | some l => if len = l.length ∧ (encodeS e n l).length ≤ 2 ^ 38 then (match Nat.ble l.length 9223372036854775807 with
      | true => some (.str (encodeS e n l), [], 1)
      | false => none) else none
    | none => none
  | [.agg [.int .i64 e, .int .i64 n, .val (.slice none 0 0)]], [] => some (.str (encodeS e n []), [], 0)
  | _, _ => none
theorem gEncode_ok : FunS Tryd.prog tS 18 gEncode := by
  intro a0 m0 r m1 n1 h
  unfold gEncode at h
  split at h
  · split at h
    · rename_i l hl
      split at h
      · rename_i he
        split at h
        · rename_i hb
          cases h
          obtain ⟨he, hT⟩ := he
          subst he
          obtain ⟨rfl, hP⟩ := unM_some hl
          exact ⟨f18 _ _ l hP (Nat.le_of_ble_eq_true hb) hT _, by simp [freshB]⟩
        · cases h
      · cases h
    · cases h
  · cases h; exact ⟨f18n _ _, by simp [freshB]⟩
  · cases h
end Go.Proofs.YtkfbkooobfepeaaDoor

/- Encode of the reference. -/
namespace Go.Proofs.YtkfbkooobfepeaaDoor
open Go Go.Sx Sf
set_option maxRecDepth 100000
set_option linter.unusedVariables false
variable {tS : List (Nat × List SV)}
def tabEr : List (FuncId × GS) := [(35, gIntsR), (36, gBytesR), (37, gText), (38, gIntR)]
theorem tabEr_ok : ∀ x ∈ tabEr, FunS Tryd.prog tS x.1 x.2 := by
  intro x hx
  simp only [tabEr, List.mem_cons, List.not_mem_nil, or_false] at hx
  rcases hx with rfl | rfl | rfl | rfl
  · exact gIntsR_ok
  · exact gBytesR_ok
  · exact gText_ok
  · exact gIntR_ok
def encMbR (m : Mb) : List UInt8 := encSR m.name ++ m.pub ++ encR m.h
def encMsR : List Mb → List UInt8
  | [] => []
  | m :: l => encMbR m ++ encMsR l
def encodeR (e n : Int) (l : List Mb) : List UInt8 := encIsR [e, n, (l.length : Int)] ++ encMsR l
set_option maxHeartbeats 8000000 in
theorem f19 (e n : Int) (l : List Mb) (hP : Pub l) (hl : l.length ≤ 9223372036854775807) (hT : (encodeR e n l).length ≤ 2 ^ 38) (cap : Option Nat) :
    Fun Tryd.prog tS 19 [.agg [.int .i64 e, .int .i64 n, .slc 0 0 18 l.length cap]] [(0, ⟨.view, mcs l⟩)] 1 (.str (encodeR e n l)) [] 1 := by
  refine fun_any none (callS tabEr cF) (callS_ok tabEr_ok cF_ok) chk19 (show 1 ≤ 50 by decide) (by decide) ?_
  unfold sf19
  have hlen := len_mcs hP
  have hm : maxStr = 9223372036854775807 := rfl
  have au := all_isU8 (encIsR [e, n, (l.length : Int)])
  have mb := map_byteOf (encIsR [e, n, (l.length : Int)])
  simp (config := { maxSteps := 1000000 }) only [tabEr, gIntsR, unI, au, mb, SV.flatL, SV.flat, Bool.and_self, and_self, lookF, reduceCtorEq, Nat.reduceEqDiff, Nat.reduceAdd, Nat.reduceSub, Nat.reduceLeDiff, Nat.reduceLT, eq_self,  true_and, List.getElem?_cons_zero, List.getElem?_cons_succ, List.length_cons, List.length_nil, List.append_nil, List.nil_append, List.cons_append, List.take_succ_cons, List.take_zero, List.drop_succ_cons, List.drop_zero, List.take_nil, List.drop_nil, List.map_cons, List.map_nil, Nat.zero_add, Nat.add_zero, frOf, den_o0, den_o1, kont_app, den_reg, den_seq, den_block, ↓reduceIte, ↓e_box, ↓e_bslice, ↓e_load, ↓e_b2s, ↓e_mv, ↓e_fld, ↓e_call, ↓e_len, ↓u_srcSl, ↓fillE, Opd.ev, Sx.get, put, putO, del, dels, rd, splice, SV.cells?, SV.one, ↓u_callS, canLW, canV, canC, belowL, apH, apH1, eta, SV.ren, newOwn, targets, rms, Kind.isOwn, ren_bytes, List.getElem?_nil, Option.getD_none, Nat.le_refl, take_bytes, len_bytes, Nat.mul_one]
  rw [den_loop]
  refine den_inv (callS_ok tabEr_ok cF_ok) (σ := Nat × List UInt8) (fun s => [(4, .int .i64 (s.1 : Int)), (3, .str s.2), (1, .ptr 1 0)])
    (fun s => [(1, ⟨.own 24, [.int .i64 e, .int .i64 n, .slc 0 0 18 l.length cap]⟩), (0, ⟨.view, mcs l⟩)]) (fun _ => 2) (fun s => s.1 ≤ l.length ∧ s.2 ++ encMsR (l.drop s.1) = encodeR e n l) (fun s => l.length - s.1) (0, encIsR [e, n, (l.length : Int)]) ?_ ⟨Nat.zero_le _, rfl⟩ ?_
  · exact ⟨[(0, 0), (1, 0)], by simp [ren_mcs, EntM, compat, apartM, keysBelow, eta, idHs, rd, SV.ren, SV.renL, Option.getD_some, List.length_cons, List.length_nil, Nat.zero_add, Nat.add_zero, Nat.reduceAdd, Nat.reduceEqDiff, Nat.reduceLeDiff, ↓reduceIte, Kind.isOwn, List.take_succ_cons, List.take_zero, List.nil_append, and_self, true_and, exists_eq_left', Option.some.injEq, List.drop_zero, List.take_length, ne_eq, not_false_eq_true, implies_true, List.not_mem_nil, Bool.false_or, Bool.true_or, forall_const, reduceCtorEq, List.mem_cons, or_false, forall_eq, Nat.succ_ne_self], by simp [frEnt, geto, eta, SV.ren, Option.getD_some, List.length_cons, List.length_nil, Nat.zero_add, Nat.add_zero, Nat.reduceAdd, Nat.reduceEqDiff, Nat.reduceLeDiff, ↓reduceIte, and_self, Nat.succ_ne_self]⟩
  · rintro ⟨i, pre⟩ ⟨hi, hpre⟩
    simp only at hi hpre
    have hlen0 := congrArg List.length hpre
    simp only [List.length_append] at hlen0
    by_cases h : i < l.length
    · have c1 : (i : Int) < (l.length : Int) := by omega
      have c2 : (0 : Int) ≤ (i : Int) := by omega
      have wi : IntKind.i64.wrap ((i : Int) + 1) = ((i + 1 : Nat) : Int) := by rw [wrap64_eq (by omega) (by omega)]; omega
      have q1 : i * 18 < l.length * 18 := by omega
      have q2 : i * 18 + 1 + 16 ≤ l.length * 18 := by omega
      have q3 : i * 18 + 17 < l.length * 18 := by omega
      obtain ⟨m, hm'⟩ : ∃ m, l[i]? = some m := ⟨_, List.getElem?_eq_getElem h⟩
      have hd : l.drop i = m :: l.drop (i + 1) := by
        rw [List.drop_eq_getElem_cons h]
        rw [List.getElem?_eq_getElem h] at hm'; cases hm'; rfl
      have h16 := hP m (List.mem_of_getElem? hm')
      have gn : (mcs l)[i * 18]? = some (.str m.name) := cell_row hP hm' (k := 0) (by decide)
      have gh : (mcs l)[i * 18 + 17]? = some (.int .i64 m.h) := by rw [cell_row hP hm' (k := 17) (by decide)]; exact mb17 h16
      have gp : List.take 16 (List.drop (i * 18 + 1) (mcs l)) = bys m.pub := by
        have := take_row hP hm'
        have h2 := mbpub h16
        rw [← this, List.drop_take, List.take_take, List.drop_drop] at h2
        rw [← h2]
        congr 1
      rw [hd] at hpre
      simp only [encMsR, encMbR, ← List.append_assoc] at hpre
      have hlen2 := congrArg List.length hpre
      simp only [List.length_append] at hlen2
      have hq := encR_len m.h
      have hsl : (encSR m.name).length = (encR m.name.length).length + m.name.length := by simp [encSR]
      have k1 : m.name.length ≤ 2 ^ 39 := by omega
      have au1 := all_isU8 (encSR m.name)
      have mb1 := map_byteOf (encSR m.name)
      have au2 := all_isU8 (encR m.h)
      have mb2 := map_byteOf (encR m.h)
      simp (config := { maxSteps := 1000000 }) only [gBytesR, gText, gIntR, unB_bytes, c1, c2, wi, q1, q2, hlen, gn, gh, gp, k1, h16, au1, mb1, au2, mb2, SV.flatL, SV.flat, Bool.and_true, lookF, again_n, reduceCtorEq, Nat.reduceEqDiff, Nat.reduceAdd, Nat.reduceLeDiff, eq_self, decide_true,  true_and, and_false, List.getElem?_cons_zero, List.getElem?_cons_succ, List.length_nil, List.append_nil, List.nil_append, List.cons_append, List.take_succ_cons, List.take_zero, List.drop_succ_cons, List.drop_zero, List.reverse_cons, List.reverse_nil, List.map_cons, List.map_nil, Nat.zero_add, Nat.add_zero, den_nil, den_o0, ↓gd_tt, den_o1, kont_app, den_skip, den_reg, den_regD, den_A, List.all_nil, den_seq, den_cond, den_block, den_b, ↓reduceIte, ↓e_load, ↓e_idxS, ↓e_b2s, ↓e_mv, ↓e_fld, ↓e_bin, ↓e_call, ↓e_callp, ↓e_len, ↓u_binV, ↓u_srcSl, ↓binI, ↓binS, evA, Opd.ev, Sx.get, put, putO, del, dels, frD, memD, pickD, kills, views, newer, rd, ↓u_callS, canLW, canV, canC, belowL, apH, eta, SV.ren, newOwn, targets, rms, Kind.isOwn, ren_bytes, List.getElem?_nil, Option.getD_none, Nat.sub_zero, Nat.le_refl, take_bytes, len_bytes, flat_bytes, Int.toNat_natCast, Nat.mul_one]
      refine ⟨by omega, by simp only [List.length_append]; omega, by simp only [List.length_append]; omega, (i + 1, _), ⟨[(0, 0), (1, 0)], by simp [ren_mcs, EntM, compat, apartM, keysBelow, eta, idHs, rd, SV.ren, SV.renL, Option.getD_some, List.length_cons, List.length_nil, Nat.zero_add, Nat.add_zero, Nat.reduceAdd, Nat.reduceEqDiff, Nat.reduceLeDiff, ↓reduceIte, Kind.isOwn, List.take_succ_cons, List.take_zero, List.nil_append, and_self, true_and, exists_eq_left', Option.some.injEq, List.drop_zero, List.take_length, ne_eq, not_false_eq_true, implies_true, List.not_mem_nil, Bool.false_or, Bool.true_or, forall_const, reduceCtorEq, List.mem_cons, or_false, forall_eq, Nat.succ_ne_self], by simp [frEnt, geto, eta, SV.ren, Option.getD_some, List.length_cons, List.length_nil, Nat.zero_add, Nat.add_zero, Nat.reduceAdd, Nat.reduceEqDiff, Nat.reduceLeDiff, ↓reduceIte, and_self, Nat.succ_ne_self]⟩, ⟨by simp only; omega, hpre⟩, by simp only; omega⟩
    · obtain rfl : i = l.length := by omega
      simp only [List.drop_length, encMsR, List.append_nil] at hpre
      subst hpre
      have c1 : ¬ (l.length : Int) < (l.length : Int) := by omega
      simp (config := { maxSteps := 1000000 }) only [c1, again_x, Nat.reduceEqDiff, eq_self, decide_false,  true_and, and_true, List.getElem?_cons_zero, List.getElem?_cons_succ, Nat.zero_add, den_nil, den_o0, ↓gd_ft, den_o1, kont_app, den_reg, den_seq, den_cond, den_exit, den_ret, den_xb, den_xc, finE_r, ↓reduceIte, ↓e_load, ↓e_mv, ↓e_fld, ↓e_bin, ↓e_len, ↓u_binV, ↓binI, ↓evRes, Opd.ev, Sx.get, put, putO, del, dels, rd, retOf, SV.ren]
      exact ⟨[(0, 0)], rfl, by simp [compat, apartM, keysBelow, idHs, List.take_succ_cons, List.nil_append, List.take_nil, and_self]⟩
theorem encMs_same : ∀ {l : List Mb}, (∀ m ∈ l, R64 m.h ∧ R64 (m.name.length : Int)) → encMsR l = encMs l
  | [], _ => rfl
  | m :: l, h => by
    obtain ⟨h1, h2⟩ := h m List.mem_cons_self
    simp only [encMsR, encMs, encMbR, encMb, encSR, encS, enc_same h1, enc_same h2, encMs_same fun x hx => h x (List.mem_cons_of_mem _ hx)]
theorem encode_same {e n : Int} {l : List Mb} (he : R64 e) (hn : R64 n) (hl : R64 (l.length : Int)) (h : ∀ m ∈ l, R64 m.h ∧ R64 (m.name.length : Int)) : encodeR e n l = encodeS e n l := by
  have h3 : R64 (([e, n, (l.length : Int)] : List Int).length : Int) := by unfold R64; simp
  simp only [encodeR, encodeS, encIsR, encIs, encLR, encL, enc_same he, enc_same hn, enc_same hl, enc_same h3, encMs_same h]
def gEncodeR : GS
  | [.agg [.int .i64 e, .int .i64 n, .slc 0 0 18 len _]], [(0, ⟨.view, cells⟩)] => match unM cells.length cells with
    | some l => if len = l.length ∧ (encodeR e n l).length ≤ 2 ^ 38 then (match Nat.ble l.length 9223372036854775807 with
      | true => some (.str (encodeR e n l), [], 1)
      | false => none) else none
    | none => none
  | _, _ => none
theorem gEncodeR_ok : FunS Tryd.prog tS 19 gEncodeR := by
  intro a0 m0 r m1 n1 h
  unfold gEncodeR at h
  split at h
  · split at h
    · rename_i l hl
      split at h
      · rename_i he
        split at h
        · rename_i hb
          cases h
          obtain ⟨he, hT⟩ := he
          subst he
          obtain ⟨rfl, hP⟩ := unM_some hl
          exact ⟨f19 _ _ l hP (Nat.le_of_ble_eq_true hb) hT _, by simp [freshB]⟩
        · cases h
      · cases h
    · cases h
  · cases h
end Go.Proofs.YtkfbkooobfepeaaDoor

/- The digests of custodians. -/
namespace Go.Proofs.YtkfbkooobfepeaaDoor
open Go Go.Sx Sf
set_option maxRecDepth 100000
set_option linter.unusedVariables false
theorem tH_2 : ∀ x ∈ tH, x ∈ tH2 := by
  intro x hx
  simp only [tH, List.mem_singleton] at hx
  subst hx
  simp [tH2]
theorem okT_1 {tag : Int} {s : List UInt8} (hs : s.length ≤ 2 ^ 36) : okT tag [s] := by
  refine ⟨fun p hp => ?_, ?_, by simp⟩
  · simp only [List.mem_singleton] at hp
    subst hp
    omega
  · have := encI_len (s.length : Int)
    simp [ofM, encS]
    omega
theorem gOf_eq {tag : Int} {s : List UInt8} (hs : s.length ≤ 2 ^ 36) : gOf [.int .i64 tag, .slc 0 0 1 1 none] [(0, ⟨.view, [.str s]⟩)] = some (.agg (bys (ofS tag [s])), [], 1) := by
  unfold gOf
  simp only
  rw [show [SV.str s] = strs [s] from rfl, unStr_strs]
  simp only [capB, List.length_cons, List.length_nil]
  rw [if_pos ⟨trivial, okT_1 hs⟩]
theorem gOfR_eq {tag : Int} {s : List UInt8} (hs : s.length ≤ 2 ^ 36) : gOfR [.int .i64 tag, .slc 0 0 1 1 none] [(0, ⟨.view, [.str s]⟩)] = some (.agg (bys (ofS tag [s])), [], 1) := by
  unfold gOfR
  simp only
  rw [show [SV.str s] = strs [s] from rfl, unStr_strs]
  simp only [capB, List.length_cons, List.length_nil]
  rw [if_pos ⟨trivial, okT_1 hs⟩]
def tabDg : List (FuncId × GS) := [(18, gEncode), (39, gOf)]
theorem tabDg_ok : ∀ x ∈ tabDg, FunS Tryd.prog tH2 x.1 x.2 := by
  intro x hx
  simp only [tabDg, List.mem_cons, List.not_mem_nil, or_false] at hx
  rcases hx with rfl | rfl
  · exact gEncode_ok
  · exact gOf_ok.more tH_2
def tabDR : List (FuncId × GS) := [(19, gEncodeR), (40, gOfR)]
theorem tabDR_ok : ∀ x ∈ tabDR, FunS Tryd.prog tH2 x.1 x.2 := by
  intro x hx
  simp only [tabDR, List.mem_cons, List.not_mem_nil, or_false] at hx
  rcases hx with rfl | rfl
  · exact gEncodeR_ok
  · exact gOfR_ok
theorem f20 (e n : Int) (l : List Mb) (hP : Pub l) (hl : l.length ≤ 1000) (hs : (encodeS e n l).length ≤ 2 ^ 36) (cap : Option Nat) :
    Fun Tryd.prog tH2 20 [.agg [.int .i64 e, .int .i64 n, .slc 0 0 18 l.length cap]] [(0, ⟨.view, mcs l⟩)] 1 (.agg (bys (ofS 12 [encodeS e n l]))) [] 1 := by
  refine fun_val none (callS tabDg cF) (callS_ok tabDg_ok cF_ok) chk20 (show 1 ≤ 7 by decide) (fun η => by simp only [SV.ren, ren_bytes]) ?_
  unfold sf20
  have hlen := len_mcs hP
  have fl := flat_mcs l
  have tk : List.take (l.length * 18) (mcs l) = mcs l := List.take_of_length_le (by omega)
  have un := unM_mcs (f := (mcs l).length) hP (by rw [hlen]; omega)
  rw [hlen] at un
  have b0 : Nat.ble l.length 9223372036854775807 = true := Nat.ble_eq_true_of_le (by omega)
  have h38 : (encodeS e n l).length ≤ 2 ^ 38 := by omega
  have go := gOf_eq (tag := 12) hs
  have l16 := ofS_len 12 [encodeS e n l]
  generalize ofS 12 [encodeS e n l] = O at *
  simp (config := { maxSteps := 1000000 }) only [tabDg, gEncode, ↓go, hlen, fl, tk, un, b0, h38, l16, SV.flatL, SV.flat, Bool.and_true, Bool.and_self, Bool.true_and, SV.agg.injEq, and_self, lookF, reduceCtorEq, Nat.reduceEqDiff, Nat.reduceAdd, Nat.reduceSub, Nat.reduceLT, eq_self,  true_and, List.length_cons, List.length_nil, List.append_nil, List.nil_append, List.take_succ_cons, List.take_zero, List.drop_succ_cons, List.drop_zero, List.take_nil, List.drop_nil, List.map_cons, List.map_nil, Nat.zero_add, Nat.add_zero, frOf, den_nil, den_o0, den_o1, kont_app, den_reg, den_seq, den_ret, finP_r, ↓reduceIte, ↓e_box, ↓e_bslice, ↓e_load, ↓e_store, ↓e_new, ↓e_call, ↓fillE, ↓evRes, Opd.ev, Sx.get, put, putO, del, dels, rd, upd, splice, SV.cells?, SV.one, retOf, ↓u_callS, canLW, canV, canC, belowL, apH, apH1, SV.ren, newOwn, targets, rms, Kind.isOwn, ren_bytes, Nat.le_refl, len_bytes, Nat.mul_one]
  exact List.take_of_length_le (by rw [len_bytes]; omega)
theorem f21 (e n : Int) (l : List Mb) (hP : Pub l) (hl : l.length ≤ 1000) (hs : (encodeR e n l).length ≤ 2 ^ 36) (cap : Option Nat) :
    Fun Tryd.prog tH2 21 [.agg [.int .i64 e, .int .i64 n, .slc 0 0 18 l.length cap]] [(0, ⟨.view, mcs l⟩)] 1 (.agg (bys (ofS 12 [encodeR e n l]))) [] 1 := by
  refine fun_val none (callS tabDR cF) (callS_ok tabDR_ok cF_ok) chk21 (show 1 ≤ 7 by decide) (fun η => by simp only [SV.ren, ren_bytes]) ?_
  unfold sf21
  have hlen := len_mcs hP
  have fl := flat_mcs l
  have tk : List.take (l.length * 18) (mcs l) = mcs l := List.take_of_length_le (by omega)
  have un := unM_mcs (f := (mcs l).length) hP (by rw [hlen]; omega)
  rw [hlen] at un
  have b0 : Nat.ble l.length 9223372036854775807 = true := Nat.ble_eq_true_of_le (by omega)
  have h38 : (encodeR e n l).length ≤ 2 ^ 38 := by omega
  have go := gOfR_eq (tag := 12) hs
  have l16 := ofS_len 12 [encodeR e n l]
  generalize ofS 12 [encodeR e n l] = O at *
  simp (config := { maxSteps := 1000000 }) only [tabDR, gEncodeR, ↓go, hlen, fl, tk, un, b0, h38, l16, SV.flatL, SV.flat, Bool.and_true, Bool.and_self, Bool.true_and, SV.agg.injEq, and_self, lookF, reduceCtorEq, Nat.reduceEqDiff, Nat.reduceAdd, Nat.reduceSub, Nat.reduceLT, eq_self,  true_and, List.length_cons, List.length_nil, List.append_nil, List.nil_append, List.take_succ_cons, List.take_zero, List.drop_succ_cons, List.drop_zero, List.take_nil, List.drop_nil, List.map_cons, List.map_nil, Nat.zero_add, Nat.add_zero, frOf, den_nil, den_o0, den_o1, kont_app, den_reg, den_seq, den_ret, finP_r, ↓reduceIte, ↓e_box, ↓e_bslice, ↓e_load, ↓e_store, ↓e_new, ↓e_call, ↓fillE, ↓evRes, Opd.ev, Sx.get, put, putO, del, dels, rd, upd, splice, SV.cells?, SV.one, retOf, ↓u_callS, canLW, canV, canC, belowL, apH, apH1, SV.ren, newOwn, targets, rms, Kind.isOwn, ren_bytes, Nat.le_refl, len_bytes, Nat.mul_one]
  exact List.take_of_length_le (by rw [len_bytes]; omega)
def gDig20 : GS
  | [.agg [.int .i64 e, .int .i64 n, .slc 0 0 18 len _]], [(0, ⟨.view, cells⟩)] => match unM cells.length cells with
    | some l => if len = l.length ∧ l.length ≤ 1000 ∧ (encodeS e n l).length ≤ 2 ^ 36 then some (.agg (bys (ofS 12 [encodeS e n l])), [], 1) else none
    | none => none
  | _, _ => none
theorem gDig20_ok : FunS Tryd.prog tH2 20 gDig20 := by
  intro a0 m0 r m1 n1 h
  unfold gDig20 at h
  split at h
  · split at h
    · rename_i l hl
      split at h
      · rename_i he
        cases h
        obtain ⟨he, h1, hT⟩ := he
        subst he
        obtain ⟨rfl, hP⟩ := unM_some hl
        exact ⟨f20 _ _ l hP h1 hT _, by simp [freshB]⟩
      · cases h
    · cases h
  · cases h
def gDig21 : GS
  | [.agg [.int .i64 e, .int .i64 n, .slc 0 0 18 len _]], [(0, ⟨.view, cells⟩)] => match unM cells.length cells with
    | some l => if len = l.length ∧ l.length ≤ 1000 ∧ (encodeR e n l).length ≤ 2 ^ 36 then some (.agg (bys (ofS 12 [encodeR e n l])), [], 1) else none
    | none => none
  | _, _ => none
theorem gDig21_ok : FunS Tryd.prog tH2 21 gDig21 := by
  intro a0 m0 r m1 n1 h
  unfold gDig21 at h
  split at h
  · split at h
    · rename_i l hl
      split at h
      · rename_i he
        cases h
        obtain ⟨he, h1, hT⟩ := he
        subst he
        obtain ⟨rfl, hP⟩ := unM_some hl
        exact ⟨f21 _ _ l hP h1 hT _, by simp [freshB]⟩
      · cases h
    · cases h
  · cases h
end Go.Proofs.YtkfbkooobfepeaaDoor

/- Replace of the reference. -/
namespace Go.Proofs.YtkfbkooobfepeaaDoor
open Go Go.Sx Sf
set_option maxRecDepth 100000
set_option linter.unusedVariables false
variable {tS : List (Nat × List SV)}
def tabRp : List (FuncId × GS) := [(13, gValidR)]
theorem tabRp_ok : ∀ x ∈ tabRp, FunS Tryd.prog tS x.1 x.2 := by
  intro x hx
  simp only [tabRp, List.mem_cons, List.not_mem_nil, or_false] at hx
  rcases hx with rfl
  exact gValidR_ok
set_option maxHeartbeats 4000000 in
theorem f11 (e n need : Int) (l l' : List Mb) (hP : Pub l) (hP' : Pub l') (hl : l.length ≤ 1000) (hl' : l'.length ≤ 1000) :
    (replB e n need l l' = true → Fun Tryd.prog tS 11 [.agg [.int .i64 e, .int .i64 n, .slc 0 0 18 l.length none], .int .i64 need, .slc 1 0 18 l'.length none] [(0, ⟨.view, mcs l⟩), (1, ⟨.view, mcs l'⟩)] 2
      (.tup [.agg [.int .i64 (IntKind.i64.wrap (e + 1)), .int .i64 need, .slc 2 0 18 l'.length none], .int .i64 0]) [(2, ⟨.own 47, mcs l'⟩)] 3) ∧
    (replB e n need l l' = false → Fun Tryd.prog tS 11 [.agg [.int .i64 e, .int .i64 n, .slc 0 0 18 l.length none], .int .i64 need, .slc 1 0 18 l'.length none] [(0, ⟨.view, mcs l⟩), (1, ⟨.view, mcs l'⟩)] 2
      (.tup [noCust, .int .i64 1]) [] 2) := by
  have hlen := len_mcs hP
  have hlen' := len_mcs hP'
  have fl := flat_mcs l
  have fl' := flat_mcs l'
  have tk : List.take (l.length * 18) (mcs l) = mcs l := List.take_of_length_le (by omega)
  have tk' : List.take (l'.length * 18) (mcs l') = mcs l' := List.take_of_length_le (by omega)
  have un := unM_mcs (f := (mcs l).length) hP (by rw [hlen]; omega)
  rw [hlen] at un
  have un' := unM_mcs (f := (mcs l').length) hP' (by rw [hlen']; omega)
  rw [hlen'] at un'
  have b0 : Nat.ble l.length 9223372036854775807 = true := Nat.ble_eq_true_of_le (by omega)
  have b0' : Nat.ble l'.length 9223372036854775807 = true := Nat.ble_eq_true_of_le (by omega)
  constructor
  all_goals
    intro hr
    unfold replB at hr
    refine fun_any none (callS tabRp cF) (callS_ok tabRp_ok cF_ok) chk11 (show 3 ≤ 32 by decide) (by decide) ?_
    unfold sf11
    cases hv : validB e n l <;> cases hv' : validB (IntKind.i64.wrap (e + 1)) need l' <;> rw [hv, hv'] at hr <;> simp only [Bool.and_true, Bool.and_false, Bool.and_self, Bool.false_eq_true, Bool.true_eq_false] at hr
    all_goals
      simp (config := { maxSteps := 1000000 }) only [tabRp, gValidR, hlen, hlen', fl, fl', tk, tk', un, un', b0, b0', hv, hv', SV.flatL, SV.flat, Bool.and_true, Bool.true_and, List.cons.injEq, SV.tup.injEq, SV.agg.injEq, and_self, lookF, reduceCtorEq, Nat.reduceEqDiff, Nat.reduceAdd, Nat.reduceSub, Nat.reduceLeDiff, Nat.reduceLT, eq_self,  true_and, and_true, List.getElem?_cons_zero, List.length_cons, List.length_nil, List.append_nil, List.nil_append, List.cons_append, List.take_succ_cons, List.take_zero, List.drop_succ_cons, List.drop_zero, List.take_nil, List.drop_nil, List.map_cons, List.map_nil, Nat.zero_add, Nat.add_zero, frOf, den_nil, den_o0, ↓gd_tt, ↓gd_ft, den_o1, kont_app, Bool.not_true, Bool.not_false, den_skip, den_reg, Bool.not_true, Bool.not_false, den_seq, den_cond, den_ret, den_rc, finE_r, ↓reduceIte, ↓e_box, ↓e_build, ↓e_load, ↓e_store, ↓e_app, ↓e_mv, ↓e_new, ↓e_fld, ↓e_bin, ↓e_un, ↓e_call, ↓u_binV, ↓u_srcOf, ↓u_srcSl, ↓binI, ↓fillE, ↓evRes, Opd.ev, Sx.get, put, putO, del, dels, rd, upd, splice, SV.cells?, SV.one, retOf, ↓u_callS, canLW, canV, canC, belowL, apH, apH1, eta, SV.ren, SV.renL, newOwn, targets, rms, Kind.isOwn, Nat.le_refl]
      first
        | exact ⟨[(0, 0), (1, 0), (4, 0)], by simp [EntM, compat, apartM, keysBelow, idHs, List.length_cons, List.length_nil, Nat.zero_add, Nat.reduceAdd, List.take_succ_cons, List.take_zero, List.nil_append, List.cons_append, and_self, and_true, Nat.succ_ne_self], by simp [EntM, compat, apartM, keysBelow, frEnt, geto, eta, idHs, rd, SV.ren, SV.renL, Option.getD_some, Option.getD_none, List.getElem?_cons_zero, List.getElem?_cons_succ, List.getElem?_nil, List.length_cons, List.length_nil, Nat.zero_add, Nat.add_zero, Nat.reduceAdd, Nat.reduceSub, Nat.reduceEqDiff, Nat.reduceLT, Nat.reduceLeDiff, ↓reduceIte, Kind.isOwn, List.take_succ_cons, List.take_zero, List.nil_append, List.cons_append, List.append_nil, List.take_nil, and_self, and_true, true_and, exists_eq_left', Option.some.injEq, Blk.mk.injEq, Kind.own.injEq, List.drop_zero, List.take_length, Nat.le_refl, ne_eq, not_false_eq_true, implies_true, List.forall_mem_cons, List.not_mem_nil, false_imp_iff, Bool.or_false, Bool.false_or, Bool.or_self, Bool.true_or, Bool.or_true, forall_const, reduceCtorEq, List.mem_cons, or_false, forall_eq_or_imp, forall_eq, Nat.succ_ne_self, exists_eq_left, Option.some_inj, byte_ren, one_byte, ren_bytes, len_bytes, take_bytes, take_ints, nlS_0, nlS_1, nlM_0, nlM_1, nlN_0, nlN_1, take_bys1, ren_ints, len_ints]⟩
        | exact ⟨[(0, 0), (1, 0)], ⟨rfl, by simp [compat, apartM, keysBelow, idHs, List.take_succ_cons, List.nil_append, List.cons_append, List.take_nil, and_self]⟩, rfl⟩
        | exact ⟨by omega, by decide, [(0, 0), (1, 0)], ⟨rfl, by simp [ren_mcs, compat, apartM, keysBelow, eta, idHs, rd, Option.getD_none, List.length_cons, List.length_nil, Nat.zero_add, Nat.add_zero, Nat.reduceAdd, Nat.reduceEqDiff, Nat.reduceLeDiff, ↓reduceIte, Kind.isOwn, List.take_succ_cons, List.nil_append, List.cons_append, List.take_nil, and_self, and_true, true_and, ne_eq, not_false_eq_true, implies_true, List.not_mem_nil, Bool.true_or, forall_const, reduceCtorEq]⟩, rfl⟩
        | exact ⟨by omega, by decide, [(0, 0), (1, 0), (4, 0)], by simp [ren_mcs, EntM, compat, apartM, keysBelow, eta, idHs, rd, Option.getD_some, List.length_cons, List.length_nil, Nat.zero_add, Nat.add_zero, Nat.reduceAdd, Nat.reduceLeDiff, ↓reduceIte, Kind.isOwn, List.take_succ_cons, List.take_zero, List.nil_append, List.cons_append, and_self, true_and, exists_eq_left', Option.some.injEq, ne_eq, implies_true, List.not_mem_nil, Bool.true_or, forall_const, Nat.succ_ne_self], by simp [Option.getD_some, List.length_cons, List.length_nil, Nat.zero_add, Nat.add_zero, Nat.reduceAdd, Nat.reduceLeDiff]⟩
theorem gReplaceR_ok : FunS Tryd.prog tS 11 gReplace := by
  intro a0 m0 r m1 n1 h
  unfold gReplace at h
  split at h
  · rename_i e n len need len' cells cells'
    split at h
    · rename_i l l' hl hl'
      split at h
      · rename_i hc
        obtain ⟨h1, h2, h4, h5⟩ := hc
        subst h1; subst h2
        obtain ⟨rfl, hP⟩ := unM_some hl
        obtain ⟨rfl, hP'⟩ := unM_some hl'
        obtain ⟨F1, F2⟩ := f11 (tS := tS) e n need l l' hP hP' h4 h5
        split at h
        · rename_i hb; cases h; exact ⟨F1 hb, by simp [freshB]⟩
        · rename_i hb; cases h; exact ⟨F2 hb, by simp [freshB]⟩
      · cases h
    · cases h
  · cases h
end Go.Proofs.YtkfbkooobfepeaaDoor

/- The reference's KeptMembers, and the equality of lists of numbers. -/
namespace Go.Proofs.YtkfbkooobfepeaaDoor
open Go Go.Sx Sf
set_option maxRecDepth 100000
set_option linter.unusedVariables false
variable {tS : List (Nat × List SV)}
theorem f15 (l l' : List Int) (hl : l.length ≤ 9223372036854775807) (hl' : l'.length ≤ 9223372036854775807) (cap cap' : Option Nat) :
    Fun Tryd.prog tS 15 [.slc 0 0 1 l.length cap, .slc 1 0 1 l'.length cap'] [(0, ⟨.view, ints l⟩), (1, ⟨.view, ints l'⟩)] 2 (.bool (decide (l = l'))) [] 2 := by
  refine fun_any none cF cF_ok chk15 (show 2 ≤ 26 by decide) (by decide) ?_
  unfold sf15
  by_cases a3 : l.length = l'.length
  case neg =>
    have b1 : ((l.length : Int) != (l'.length : Int)) = true := by rw [bne_iff_ne]; omega
    have hv : decide (l = l') = false := decide_eq_false (by rintro rfl; exact a3 rfl)
    simp (config := { maxSteps := 1000000 }) only [b1, hv, reduceCtorEq, Nat.reduceEqDiff, eq_self,  true_and, and_true, Nat.zero_add, frOf, den_nil, den_o0, ↓gd_tt, den_o1, kont_app, den_reg, den_seq, den_cond, den_ret, den_rc, finE_r, ↓reduceIte, ↓e_mv, ↓e_bin, ↓e_len, ↓u_binV, ↓binI, ↓evRes, Opd.ev, Sx.get, put, putO, del, dels, retOf, SV.ren]
    exact ⟨[(0, 0), (1, 0)], rfl, by simp [compat, apartM, keysBelow, idHs, List.take_succ_cons, List.nil_append, List.cons_append, List.take_nil, and_self]⟩
  have b3 : ((l.length : Int) != (l'.length : Int)) = false := by rw [a3]; simp
  simp (config := { maxSteps := 1000000 }) only [b3, reduceCtorEq, Nat.reduceEqDiff, eq_self,  true_and, Nat.zero_add, frOf, den_o0, ↓gd_ft, den_o1, kont_app, den_skip, den_reg, den_seq, den_cond, den_block, ↓reduceIte, ↓e_mv, ↓e_bin, ↓e_len, ↓u_binV, ↓binI, Opd.ev, Sx.get, put, putO, del, dels]
  rw [den_loop]
  refine den_inv cF_ok (σ := Nat) (fun i => [(5, .int .i64 (i : Int)), (1, .slc 1 0 1 l'.length cap'), (0, .slc 0 0 1 l.length cap)])
    (fun i => [(0, ⟨.view, ints l⟩), (1, ⟨.view, ints l'⟩)]) (fun _ => 2)
    (fun i => i ≤ l.length ∧ ∀ (k : Nat) (a b : Int), k < i → l[k]? = some a → l'[k]? = some b → a = b) (fun i => l.length - i) 0 ?_ ⟨Nat.zero_le _, fun k a b h => by omega⟩ ?_
  · exact ⟨[(0, 0), (1, 0)], by simp [EntM, compat, apartM, keysBelow, eta, idHs, rd, Option.getD_some, List.length_cons, List.length_nil, Nat.zero_add, Nat.add_zero, Nat.reduceAdd, Nat.reduceLeDiff, ↓reduceIte, Kind.isOwn, List.take_succ_cons, List.nil_append, List.cons_append, List.take_nil, and_self, exists_eq_left', Option.some.injEq, List.drop_zero, ne_eq, not_false_eq_true, implies_true, List.not_mem_nil, Bool.false_or, List.mem_cons, or_false, forall_eq, take_ints, ren_ints, len_ints], by simp [frEnt, geto, eta, SV.ren, Option.getD_some, List.length_cons, List.length_nil, Nat.zero_add, Nat.add_zero, Nat.reduceAdd, Nat.reduceEqDiff, Nat.reduceLeDiff, ↓reduceIte, and_self, reduceCtorEq]⟩
  rintro i ⟨hi, hs⟩
  by_cases h : i < l.length
  · have h' : i < l'.length := by omega
    have c1 : (i : Int) < (l.length : Int) := by omega
    have c1' : (i : Int) < (l'.length : Int) := by omega
    have c2 : (0 : Int) ≤ (i : Int) := by omega
    have wi : IntKind.i64.wrap ((i : Int) + 1) = ((i + 1 : Nat) : Int) := by rw [wrap64_eq (by omega) (by omega)]; omega
    obtain ⟨x, hx⟩ : ∃ x, l[i]? = some x := ⟨_, List.getElem?_eq_getElem h⟩
    obtain ⟨y, hy⟩ : ∃ y, l'[i]? = some y := ⟨_, List.getElem?_eq_getElem h'⟩
    have gx := get_ints hx
    have gy := get_ints hy
    by_cases hxy : x = y
    · have b : (x != y) = false := by simpa using hxy
      simp (config := { maxSteps := 1000000 }) only [c1, c1', c2, h, h', wi, gx, gy, b, again_n, reduceCtorEq, Nat.reduceEqDiff, eq_self, decide_true,  true_and, Nat.zero_add, den_nil, den_o0, ↓gd_tt, ↓gd_ft, den_o1, kont_app, den_skip, den_reg, den_regP, den_seq, den_cond, den_block, den_b, ↓reduceIte, ↓e_load, ↓e_idxS, ↓e_mv, ↓e_bin, ↓e_len, ↓u_binV, ↓binI, Opd.ev, Sx.get, put, putO, del, dels, rd, len_ints, Int.toNat_natCast, Nat.mul_one]
      refine ⟨i + 1, ⟨[(0, 0), (1, 0)], by simp [EntM, compat, apartM, keysBelow, eta, idHs, rd, Option.getD_some, List.length_cons, List.length_nil, Nat.zero_add, Nat.add_zero, Nat.reduceAdd, Nat.reduceLeDiff, ↓reduceIte, Kind.isOwn, List.take_succ_cons, List.nil_append, List.cons_append, List.take_nil, and_self, exists_eq_left', Option.some.injEq, List.drop_zero, ne_eq, not_false_eq_true, implies_true, List.not_mem_nil, Bool.false_or, List.mem_cons, or_false, forall_eq, take_ints, ren_ints, len_ints], by simp [frEnt, geto, eta, SV.ren, Option.getD_some, List.length_cons, List.length_nil, Nat.zero_add, Nat.add_zero, Nat.reduceAdd, Nat.reduceEqDiff, Nat.reduceLeDiff, ↓reduceIte, and_self, reduceCtorEq, Nat.succ_ne_self]⟩, ⟨by omega, fun k a b hk ha hb => ?_⟩, by omega⟩
      rcases Nat.lt_or_ge k i with h1 | h1
      · exact hs k a b h1 ha hb
      · obtain rfl : k = i := by omega
        rw [hx] at ha; rw [hy] at hb; cases ha; cases hb; exact hxy
    · have b : (x != y) = true := by simpa using hxy
      have hv : decide (l = l') = false := decide_eq_false (by rintro rfl; rw [hx] at hy; cases hy; exact hxy rfl)
      simp (config := { maxSteps := 1000000 }) only [c1, c1', c2, h, h', gx, gy, b, hv, again_r, reduceCtorEq, Nat.reduceEqDiff, eq_self, decide_true,  true_and, and_true, Nat.zero_add, den_nil, den_o0, ↓gd_tt, den_o1, kont_app, den_skip, den_reg, den_regP, den_seq, den_cond, den_block, den_ret, den_rb, den_rc, finE_r, ↓reduceIte, ↓e_load, ↓e_idxS, ↓e_mv, ↓e_bin, ↓e_len, ↓u_binV, ↓binI, ↓evRes, Opd.ev, Sx.get, put, putO, del, dels, rd, retOf, SV.ren, len_ints, Int.toNat_natCast, Nat.mul_one]
      exact ⟨[(0, 0), (1, 0)], rfl, by simp [compat, apartM, keysBelow, idHs, List.take_succ_cons, List.nil_append, List.cons_append, List.take_nil, and_self]⟩
  · obtain rfl : i = l.length := by omega
    have c1 : ¬ (l.length : Int) < (l.length : Int) := by omega
    have hll : l = l' := by
      apply List.ext_getElem a3
      intro k h1 h2
      exact hs k _ _ h1 (List.getElem?_eq_getElem h1) (List.getElem?_eq_getElem h2)
    have hv : decide (l = l') = true := decide_eq_true hll
    simp (config := { maxSteps := 1000000 }) only [c1, hv, again_x, reduceCtorEq, Nat.reduceEqDiff, eq_self, decide_false,  true_and, and_true, den_nil, den_o0, ↓gd_ft, den_o1, kont_app, den_reg, den_seq, den_cond, den_exit, den_ret, den_xb, den_xc, finE_r, ↓reduceIte, ↓e_mv, ↓e_bin, ↓e_len, ↓u_binV, ↓binI, ↓evRes, Opd.ev, Sx.get, put, putO, del, dels, retOf, SV.ren]
    exact ⟨[(0, 0), (1, 0)], rfl, by simp [compat, apartM, keysBelow, idHs, List.take_succ_cons, List.nil_append, List.cons_append, List.take_nil, and_self]⟩
theorem f15n : Fun Tryd.prog tS 15 [.val (.slice none 0 0), .val (.slice none 0 0)] [] 0 (.bool true) [] 0 := by
  refine fun_any (some 2) cF cF_ok chk15 (show 2 ≤ 26 by decide) (by decide) ?_
  unfold sf15
  simp (config := { maxSteps := 1000000 }) only [Int.reduceBNe, reduceCtorEq, Nat.reduceEqDiff, Int.reduceLT, eq_self, decide_false,  true_and, and_true, Nat.zero_add, frOf, den_nil, den_o0, ↓gd_ft, den_o1, kont_app, den_skip, den_reg, den_seq, den_cond, den_block, den_exit, den_ret, den_xb, den_xc, den_xu, den_u, den_loopU, finE_r, ↓reduceIte, ↓e_mv, ↓e_bin, ↓e_len, ↓u_binV, ↓binI, ↓evRes, Opd.ev, Sx.get, put, putO, del, dels, retOf, SV.ren]
  exact ⟨[], rfl, by simp [compat, apartM, keysBelow, idHs, List.take_nil, and_self]⟩
set_option maxHeartbeats 8000000 in
theorem f17 (e n e' n' : Int) (l l' : List Mb) (hP : Pub l) (hP' : Pub l') (hl : l.length ≤ 1000) (hl' : l'.length ≤ 1000) (cap cap' : Option Nat) :
    Fun Tryd.prog tS 17 [.agg [.int .i64 e, .int .i64 n, .slc 0 0 18 l.length cap], .agg [.int .i64 e', .int .i64 n', .slc 1 0 18 l'.length cap']] [(0, ⟨.view, mcs l⟩), (1, ⟨.view, mcs l'⟩)] 2
      (nlS 2 1 l.length) (nlM 2 3 (ints (keptL l l')) [] l.length) (nlN 2 l.length) := by
  refine fun_any none cF cF_ok chk17 (show 2 ≤ 41 by decide) (by cases l.length <;> simp [nlN]) ?_
  unfold sf17
  have hlen := len_mcs hP
  have hlen' := len_mcs hP'
  have hkl : (keptL l l').length = l.length := by simp [keptL]
  simp (config := { maxSteps := 1000000 }) only [reduceCtorEq, Nat.reduceEqDiff, Nat.reduceAdd, Int.reduceNeg, eq_self, Nat.zero_add, frOf, den_o0, den_o1, kont_app, den_reg, den_seq, den_block, ↓reduceIte, ↓e_box, ↓e_mv, Opd.ev, Sx.get, put, putO, del, dels, SV.cells?]
  rw [den_loop]
  refine den_inv cF_ok (σ := Nat) (fun i => [(6, .int .i64 (i : Int)), (5, nlS 4 1 i), (3, .ptr 3 0), (2, .ptr 2 0)])
    (fun i => nlM 4 3 (ints ((keptL l l').take i)) [(3, ⟨.own 24, [.int .i64 e', .int .i64 n', .slc 1 0 18 l'.length cap']⟩), (2, ⟨.own 24, [.int .i64 e, .int .i64 n, .slc 0 0 18 l.length cap]⟩), (0, ⟨.view, mcs l⟩), (1, ⟨.view, mcs l'⟩)] i) (fun i => nlN 4 i)
    (fun i => i ≤ l.length) (fun i => l.length - i) 0 ?_ (Nat.zero_le _) ?_
  · exact ⟨[(0, 0), (1, 0), (2, 0), (3, 0)], by simp [ren_mcs, EntM, compat, apartM, keysBelow, eta, idHs, rd, SV.ren, SV.renL, Option.getD_some, List.length_cons, List.length_nil, Nat.zero_add, Nat.add_zero, Nat.reduceAdd, Nat.reduceEqDiff, Nat.reduceLT, Nat.reduceLeDiff, ↓reduceIte, Kind.isOwn, List.take_succ_cons, List.take_zero, List.nil_append, List.cons_append, and_self, true_and, exists_eq_left', Option.some.injEq, List.drop_zero, List.take_length, ne_eq, not_false_eq_true, implies_true, List.not_mem_nil, Bool.false_or, Bool.true_or, forall_const, reduceCtorEq, List.mem_cons, or_false, forall_eq_or_imp, forall_eq, Nat.succ_ne_self, nlM_0, nlN_0], by simp [frEnt, geto, eta, SV.ren, Option.getD_some, List.length_cons, List.length_nil, Nat.zero_add, Nat.add_zero, Nat.reduceAdd, Nat.reduceEqDiff, Nat.reduceLT, Nat.reduceLeDiff, ↓reduceIte, and_self, Nat.succ_ne_self, nlS_0]⟩
  intro i hi
  by_cases h : i < l.length
  · have c1 : (i : Int) < (l.length : Int) := by omega
    have c2 : (0 : Int) ≤ (i : Int) := by omega
    have wi : IntKind.i64.wrap ((i : Int) + 1) = ((i + 1 : Nat) : Int) := by rw [wrap64_eq (by omega) (by omega)]; omega
    have wl : IntKind.i64.wrap ((l'.length : Int) - 1) = (l'.length : Int) - 1 := wrap64_eq (by omega) (by omega)
    have q1 : i * 18 < l.length * 18 := by omega
    have q2 : i * 18 + 18 ≤ l.length * 18 := by omega
    obtain ⟨m, hm⟩ : ∃ m, l[i]? = some m := ⟨_, List.getElem?_eq_getElem h⟩
    have h16 := hP m (List.mem_of_getElem? hm)
    have g18 := take_row hP hm
    have hI : idxF m 0 l' = idxM l' m := rfl
    have hkt : ints ((keptL l l').take i) ++ [.int .i64 (idxM l' m)] = ints ((keptL l l').take (i + 1)) := by
      have : (keptL l l')[i]? = some (idxM l' m) := by unfold keptL; rw [List.getElem?_map, hm]; rfl
      rw [List.take_add_one, this]; simp [ints]
    rcases Nat.eq_zero_or_pos i with h0 | h0
    · simp only [nlS_z h0, nlM_z h0, nlN_z h0]
      simp (config := { maxSteps := 1000000 }) only [c1, wl, Nat.reduceEqDiff, Int.reduceNeg, eq_self, decide_true,  true_and, List.getElem?_cons_zero, List.getElem?_cons_succ, Nat.zero_add, den_o0, ↓gd_tt, den_o1, kont_app, den_skip, den_reg, den_seq, den_cond, den_block, ↓reduceIte, ↓e_load, ↓e_mv, ↓e_fld, ↓e_bin, ↓e_len, ↓u_binV, ↓binI, Opd.ev, Sx.get, put, putO, del, dels, rd]
      rw [den_loop]
      refine den_inv cF_ok (σ := Nat) (fun k => [(8, .int .i64 (idxF m k (l'.drop k))), (7, .int .i64 ((k : Int) - 1)), (6, .int .i64 (i : Int)), (5, .val (.slice none 0 0)), (3, .ptr 3 0), (2, .ptr 2 0)])
        (fun _ => [(3, ⟨.own 24, [.int .i64 e', .int .i64 n', .slc 1 0 18 l'.length cap']⟩), (2, ⟨.own 24, [.int .i64 e, .int .i64 n, .slc 0 0 18 l.length cap]⟩), (0, ⟨.view, mcs l⟩), (1, ⟨.view, mcs l'⟩)]) (fun _ => 4) (fun k => k ≤ l'.length) (fun k => k) l'.length ?_ (Nat.le_refl _) ?_
      · exact ⟨[(0, 0), (1, 0), (2, 0), (3, 0)], by simp [ren_mcs, EntM, compat, apartM, keysBelow, eta, idHs, rd, SV.ren, SV.renL, Option.getD_some, List.length_cons, List.length_nil, Nat.zero_add, Nat.add_zero, Nat.reduceAdd, Nat.reduceEqDiff, Nat.reduceLT, Nat.reduceLeDiff, ↓reduceIte, Kind.isOwn, List.take_succ_cons, List.take_zero, List.nil_append, List.cons_append, and_self, true_and, exists_eq_left', Option.some.injEq, List.drop_zero, List.take_length, ne_eq, not_false_eq_true, implies_true, List.not_mem_nil, Bool.false_or, Bool.true_or, forall_const, reduceCtorEq, List.mem_cons, or_false, forall_eq_or_imp, forall_eq, Nat.succ_ne_self], by simp [idxF, frEnt, geto, eta, SV.ren, Option.getD_some, List.length_cons, List.length_nil, Nat.zero_add, Nat.add_zero, Nat.reduceAdd, Nat.reduceEqDiff, Nat.reduceLT, Nat.reduceLeDiff, ↓reduceIte, and_self, Nat.succ_ne_self]⟩
      intro k hk
      cases k with
      | zero =>
        have d1 : ¬ (((0 : Nat) : Int) - 1 ≥ 0) := by omega
        simp (config := { maxSteps := 1000000 }) only [wi, hI, List.drop_zero, Int.reduceGE, again_n, again_x, Nat.reduceEqDiff, Nat.reduceAdd, Nat.reduceMul, Int.reduceSub, Int.reduceNeg, eq_self, decide_false, Int.cast_ofNat_Int,  true_and, List.length_cons, List.length_nil, List.append_nil, List.nil_append, List.take_succ_cons, List.take_zero, List.drop_succ_cons, List.drop_zero, List.take_nil, List.drop_nil, Nat.zero_add, den_nil, den_o0, ↓gd_ft, den_o1, kont_app, den_reg, den_seq, den_cond, den_exit, den_b, den_xb, den_xc, ↓reduceIte, ↓e_bslice, ↓e_app, ↓e_mv, ↓e_bin, ↓u_binV, ↓u_srcOf, ↓u_srcSl, ↓binI, ↓fillE, Opd.ev, Sx.get, put, putO, del, dels, rd, splice, SV.cells?, SV.one, Nat.le_refl, Nat.mul_one, Int.cast_ofNat_Int]
        have hk1 : ints ((keptL l l').take 1) = [.int .i64 (idxM l' m)] := by have := hkt; rw [h0] at this; rw [← this]; simp [ints]
        exact ⟨by decide, by decide, i + 1, ⟨[(0, 0), (1, 0), (2, 0), (3, 0), (5, 0)], by simp only [nlM, nlN, hk1, ren_mcs, h0, EntM, compat, apartM, keysBelow, eta, idHs, rd, SV.ren, SV.renL, Option.getD_some, List.getElem?_cons_zero, List.getElem?_cons_succ, List.length_cons, List.length_nil, Nat.zero_add, Nat.add_zero, Nat.reduceAdd, Nat.reduceSub, Nat.reduceEqDiff, Nat.reduceLT, Nat.reduceLeDiff, ↓reduceIte, Kind.isOwn, List.take_succ_cons, List.take_zero, List.nil_append, List.cons_append, and_self, true_and, exists_eq_left', Option.some.injEq, List.drop_zero, List.take_length, Nat.le_refl, ne_eq, not_false_eq_true, implies_true, List.not_mem_nil, false_imp_iff, Bool.false_or, Bool.true_or, forall_const, reduceCtorEq, List.mem_cons, or_false, forall_eq_or_imp, forall_eq, Nat.succ_ne_self], by simp only [nlS, h0, frEnt, geto, eta, SV.ren, Option.getD_some, List.getElem?_cons_zero, List.getElem?_cons_succ, List.length_cons, List.length_nil, Nat.zero_add, Nat.add_zero, Nat.reduceAdd, Nat.reduceSub, Nat.reduceEqDiff, ↓reduceIte, and_self, Nat.succ_ne_self]⟩, by omega, by omega⟩
      | succ k =>
        have d0 : (((k + 1 : Nat) : Int) - 1) = (k : Int) := by omega
        have d1 : (k : Int) ≥ 0 := by omega
        have d2 : (k : Int) < (l'.length : Int) := by omega
        have d3 : (0 : Int) ≤ (k : Int) := by omega
        have wk : IntKind.i64.wrap ((k : Int) - 1) = (k : Int) - 1 := wrap64_eq (by omega) (by omega)
        have r1 : k * 18 < l'.length * 18 := by omega
        have r2 : k * 18 + 18 ≤ l'.length * 18 := by omega
        obtain ⟨y, hy⟩ : ∃ y, l'[k]? = some y := ⟨_, List.getElem?_eq_getElem (by omega)⟩
        have h16' := hP' y (List.mem_of_getElem? hy)
        have g18' := take_row hP' hy
        have hq := eq_mb h16' h16
        have hst : idxF m k (l'.drop k) = if eqM y m = true then (k : Int) else idxF m (k + 1) (l'.drop (k + 1)) := by
          have hd : l'.drop k = y :: l'.drop (k + 1) := by
            rw [List.getElem?_eq_getElem (by omega)] at hy
            rw [List.drop_eq_getElem_cons (by omega), Option.some.inj hy]
          rw [hd]; rfl
        have ml' := Mb.sv_len h16'
        have ml := Mb.sv_len h16
        cases hb : eqM y m with
        | true =>
          rw [hb] at hq hst
          rw [if_pos rfl] at hst
          generalize m.sv = sx at *
          generalize y.sv = sy at *
          simp (config := { maxSteps := 1000000 }) only [d0, d1, d2, c1, c2, wk, q1, q2, r1, r2, hlen, hlen', g18, g18', ↓hq, again_n, reduceCtorEq, Nat.reduceEqDiff, eq_self, decide_true,  true_and, List.getElem?_cons_zero, List.getElem?_cons_succ, Nat.zero_add, den_nil, den_o0, ↓gd_tt, den_o1, kont_app, den_skip, den_reg, den_regP, den_seq, den_cond, den_block, den_b, ↓reduceIte, ↓e_load, ↓e_idxS, ↓e_eqv, ↓e_mv, ↓e_fld, ↓e_bin, ↓u_binV, ↓binI, Opd.ev, Sx.get, put, putO, del, dels, rd, Int.toNat_natCast]
          exact ⟨k, ⟨[(0, 0), (1, 0), (2, 0), (3, 0)], by simp only [ren_mcs, EntM, compat, apartM, keysBelow, eta, idHs, rd, SV.ren, SV.renL, Option.getD_some, List.getElem?_cons_zero, List.getElem?_cons_succ, List.length_cons, List.length_nil, Nat.zero_add, Nat.add_zero, Nat.reduceAdd, Nat.reduceSub, Nat.reduceEqDiff, Nat.reduceLT, Nat.reduceLeDiff, ↓reduceIte, Kind.isOwn, List.take_succ_cons, List.take_zero, List.nil_append, List.cons_append, and_self, true_and, exists_eq_left', Option.some.injEq, List.drop_zero, List.take_length, Nat.le_refl, ne_eq, not_false_eq_true, implies_true, List.not_mem_nil, false_imp_iff, Bool.false_or, Bool.true_or, forall_const, reduceCtorEq, List.mem_cons, or_false, forall_eq_or_imp, forall_eq, Nat.succ_ne_self], by simp only [hst, frEnt, geto, eta, SV.ren, Option.getD_some, List.getElem?_cons_zero, List.getElem?_cons_succ, List.length_cons, List.length_nil, Nat.zero_add, Nat.add_zero, Nat.reduceAdd, Nat.reduceSub, Nat.reduceEqDiff, ↓reduceIte, and_self, Nat.succ_ne_self]⟩, by omega, by omega⟩
        | false =>
          rw [hb] at hq hst
          rw [if_neg (by simp)] at hst
          generalize m.sv = sx at *
          generalize y.sv = sy at *
          simp (config := { maxSteps := 1000000 }) only [d0, d1, d2, c1, c2, wk, q1, q2, r1, r2, hlen, hlen', g18, g18', ↓hq, again_n, reduceCtorEq, Nat.reduceEqDiff, eq_self, decide_true,  true_and, List.getElem?_cons_zero, List.getElem?_cons_succ, Nat.zero_add, den_nil, den_o0, ↓gd_tt, ↓gd_ft, den_o1, kont_app, den_skip, den_reg, den_regP, den_seq, den_cond, den_block, den_b, ↓reduceIte, ↓e_load, ↓e_idxS, ↓e_eqv, ↓e_mv, ↓e_fld, ↓e_bin, ↓u_binV, ↓binI, Opd.ev, Sx.get, put, putO, del, dels, rd, Int.toNat_natCast]
          exact ⟨k, ⟨[(0, 0), (1, 0), (2, 0), (3, 0)], by simp only [ren_mcs, EntM, compat, apartM, keysBelow, eta, idHs, rd, SV.ren, SV.renL, Option.getD_some, List.getElem?_cons_zero, List.getElem?_cons_succ, List.length_cons, List.length_nil, Nat.zero_add, Nat.add_zero, Nat.reduceAdd, Nat.reduceSub, Nat.reduceEqDiff, Nat.reduceLT, Nat.reduceLeDiff, ↓reduceIte, Kind.isOwn, List.take_succ_cons, List.take_zero, List.nil_append, List.cons_append, and_self, true_and, exists_eq_left', Option.some.injEq, List.drop_zero, List.take_length, Nat.le_refl, ne_eq, not_false_eq_true, implies_true, List.not_mem_nil, false_imp_iff, Bool.false_or, Bool.true_or, forall_const, reduceCtorEq, List.mem_cons, or_false, forall_eq_or_imp, forall_eq, Nat.succ_ne_self], by simp only [hst, frEnt, geto, eta, SV.ren, Option.getD_some, List.getElem?_cons_zero, List.getElem?_cons_succ, List.length_cons, List.length_nil, Nat.zero_add, Nat.add_zero, Nat.reduceAdd, Nat.reduceSub, Nat.reduceEqDiff, ↓reduceIte, and_self, Nat.succ_ne_self]⟩, by omega, by omega⟩
    · simp only [nlS_p h0, nlM_p h0, nlN_p h0]
      simp (config := { maxSteps := 1000000 }) only [c1, wl, Nat.reduceEqDiff, Nat.reduceAdd, Int.reduceNeg, eq_self, decide_true,  true_and, List.getElem?_cons_zero, List.getElem?_cons_succ, Nat.zero_add, den_o0, ↓gd_tt, den_o1, kont_app, den_skip, den_reg, den_seq, den_cond, den_block, ↓reduceIte, ↓e_load, ↓e_mv, ↓e_fld, ↓e_bin, ↓e_len, ↓u_binV, ↓binI, Opd.ev, Sx.get, put, putO, del, dels, rd]
      rw [den_loop]
      refine den_inv cF_ok (σ := Nat) (fun k => [(8, .int .i64 (idxF m k (l'.drop k))), (7, .int .i64 ((k : Int) - 1)), (6, .int .i64 (i : Int)), (5, .slc 4 0 1 i none), (3, .ptr 3 0), (2, .ptr 2 0)])
        (fun _ => [(4, ⟨.own 3, ints ((keptL l l').take i)⟩), (3, ⟨.own 24, [.int .i64 e', .int .i64 n', .slc 1 0 18 l'.length cap']⟩), (2, ⟨.own 24, [.int .i64 e, .int .i64 n, .slc 0 0 18 l.length cap]⟩), (0, ⟨.view, mcs l⟩), (1, ⟨.view, mcs l'⟩)]) (fun _ => 5) (fun k => k ≤ l'.length) (fun k => k) l'.length ?_ (Nat.le_refl _) ?_
      · exact ⟨[(0, 0), (1, 0), (2, 0), (3, 0), (4, 0)], by simp [ren_mcs, ren_ints, EntM, compat, apartM, keysBelow, eta, idHs, rd, SV.ren, SV.renL, Option.getD_some, List.length_cons, List.length_nil, Nat.zero_add, Nat.add_zero, Nat.reduceAdd, Nat.reduceEqDiff, Nat.reduceLT, Nat.reduceLeDiff, ↓reduceIte, Kind.isOwn, List.take_succ_cons, List.take_zero, List.nil_append, List.cons_append, and_self, true_and, exists_eq_left', Option.some.injEq, List.drop_zero, List.take_length, ne_eq, not_false_eq_true, implies_true, List.not_mem_nil, Bool.false_or, Bool.true_or, forall_const, reduceCtorEq, List.mem_cons, or_false, forall_eq_or_imp, forall_eq, Nat.succ_ne_self, ren_ints], by simp [idxF, frEnt, geto, eta, SV.ren, Option.getD_some, List.length_cons, List.length_nil, Nat.zero_add, Nat.add_zero, Nat.reduceAdd, Nat.reduceEqDiff, Nat.reduceLT, Nat.reduceLeDiff, ↓reduceIte, and_self, Nat.succ_ne_self]⟩
      intro k hk
      cases k with
      | zero =>
        have d1 : ¬ (((0 : Nat) : Int) - 1 ≥ 0) := by omega
        simp (config := { maxSteps := 1000000 }) only [wi, hI, List.drop_zero, Int.reduceGE, again_n, again_x, reduceCtorEq, Nat.reduceEqDiff, Nat.reduceAdd, Int.reduceSub, Int.reduceNeg, eq_self, decide_false, Int.cast_ofNat_Int,  true_and, List.length_cons, List.length_nil, List.append_nil, List.nil_append, List.take_succ_cons, List.take_zero, List.drop_succ_cons, List.drop_zero, List.take_nil, List.drop_nil, Nat.zero_add, den_nil, den_o0, ↓gd_ft, den_o1, kont_app, den_reg, den_seq, den_cond, den_exit, den_b, den_xb, den_xc, ↓reduceIte, ↓e_bslice, ↓e_app, ↓e_mv, ↓e_bin, ↓u_binV, ↓u_srcOf, ↓u_srcSl, ↓binI, ↓fillE, Opd.ev, Sx.get, put, putO, del, dels, rd, rm, splice, SV.cells?, SV.one, len_ints, Nat.le_refl, Nat.mul_one, Int.cast_ofNat_Int]
        have hll : (ints ((keptL l l').take i)).length = i := by rw [len_ints]; simp; omega
        have e0 : List.take i (ints ((keptL l l').take i)) = ints ((keptL l l').take i) := List.take_of_length_le (by omega)
        rw [e0, hkt]
        exact ⟨by omega, by decide, by simp; omega, i + 1, ⟨[(0, 0), (1, 0), (2, 0), (3, 0), (6, 0)], by simp only [nlM, nlN, ren_mcs, ren_ints, EntM, compat, apartM, keysBelow, eta, idHs, rd, SV.ren, SV.renL, Option.getD_some, List.getElem?_cons_zero, List.getElem?_cons_succ, List.length_cons, List.length_nil, Nat.zero_add, Nat.add_zero, Nat.reduceAdd, Nat.reduceSub, Nat.reduceEqDiff, Nat.reduceLT, Nat.reduceLeDiff, ↓reduceIte, Kind.isOwn, List.take_succ_cons, List.take_zero, List.nil_append, List.cons_append, and_self, true_and, exists_eq_left', Option.some.injEq, List.drop_zero, List.take_length, Nat.le_refl, ne_eq, not_false_eq_true, implies_true, List.not_mem_nil, false_imp_iff, Bool.false_or, Bool.true_or, forall_const, reduceCtorEq, List.mem_cons, or_false, forall_eq_or_imp, forall_eq, Nat.succ_ne_self, ren_ints], by simp only [nlS, frEnt, geto, eta, SV.ren, Option.getD_some, List.getElem?_cons_zero, List.getElem?_cons_succ, List.length_cons, List.length_nil, Nat.zero_add, Nat.add_zero, Nat.reduceAdd, Nat.reduceSub, Nat.reduceEqDiff, ↓reduceIte, and_self, Nat.succ_ne_self]⟩, by omega, by omega⟩
      | succ k =>
        have d0 : (((k + 1 : Nat) : Int) - 1) = (k : Int) := by omega
        have d1 : (k : Int) ≥ 0 := by omega
        have d2 : (k : Int) < (l'.length : Int) := by omega
        have d3 : (0 : Int) ≤ (k : Int) := by omega
        have wk : IntKind.i64.wrap ((k : Int) - 1) = (k : Int) - 1 := wrap64_eq (by omega) (by omega)
        have r1 : k * 18 < l'.length * 18 := by omega
        have r2 : k * 18 + 18 ≤ l'.length * 18 := by omega
        obtain ⟨y, hy⟩ : ∃ y, l'[k]? = some y := ⟨_, List.getElem?_eq_getElem (by omega)⟩
        have h16' := hP' y (List.mem_of_getElem? hy)
        have g18' := take_row hP' hy
        have hq := eq_mb h16' h16
        have hst : idxF m k (l'.drop k) = if eqM y m = true then (k : Int) else idxF m (k + 1) (l'.drop (k + 1)) := by
          have hd : l'.drop k = y :: l'.drop (k + 1) := by
            rw [List.getElem?_eq_getElem (by omega)] at hy
            rw [List.drop_eq_getElem_cons (by omega), Option.some.inj hy]
          rw [hd]; rfl
        have ml' := Mb.sv_len h16'
        have ml := Mb.sv_len h16
        cases hb : eqM y m with
        | true =>
          rw [hb] at hq hst
          rw [if_pos rfl] at hst
          generalize m.sv = sx at *
          generalize y.sv = sy at *
          simp (config := { maxSteps := 1000000 }) only [d0, d1, d2, c1, c2, wk, q1, q2, r1, r2, hlen, hlen', g18, g18', ↓hq, again_n, reduceCtorEq, Nat.reduceEqDiff, eq_self, decide_true,  true_and, List.getElem?_cons_zero, List.getElem?_cons_succ, Nat.zero_add, den_nil, den_o0, ↓gd_tt, den_o1, kont_app, den_skip, den_reg, den_regP, den_seq, den_cond, den_block, den_b, ↓reduceIte, ↓e_load, ↓e_idxS, ↓e_eqv, ↓e_mv, ↓e_fld, ↓e_bin, ↓u_binV, ↓binI, Opd.ev, Sx.get, put, putO, del, dels, rd, Int.toNat_natCast]
          exact ⟨k, ⟨[(0, 0), (1, 0), (2, 0), (3, 0), (4, 0)], by simp only [ren_mcs, ren_ints, EntM, compat, apartM, keysBelow, eta, idHs, rd, SV.ren, SV.renL, Option.getD_some, List.getElem?_cons_zero, List.getElem?_cons_succ, List.length_cons, List.length_nil, Nat.zero_add, Nat.add_zero, Nat.reduceAdd, Nat.reduceSub, Nat.reduceEqDiff, Nat.reduceLT, Nat.reduceLeDiff, ↓reduceIte, Kind.isOwn, List.take_succ_cons, List.take_zero, List.nil_append, List.cons_append, and_self, true_and, exists_eq_left', Option.some.injEq, List.drop_zero, List.take_length, Nat.le_refl, ne_eq, not_false_eq_true, implies_true, List.not_mem_nil, false_imp_iff, Bool.false_or, Bool.true_or, forall_const, reduceCtorEq, List.mem_cons, or_false, forall_eq_or_imp, forall_eq, Nat.succ_ne_self, ren_ints], by simp only [hst, frEnt, geto, eta, SV.ren, Option.getD_some, List.getElem?_cons_zero, List.getElem?_cons_succ, List.length_cons, List.length_nil, Nat.zero_add, Nat.add_zero, Nat.reduceAdd, Nat.reduceSub, Nat.reduceEqDiff, ↓reduceIte, and_self, Nat.succ_ne_self]⟩, by omega, by omega⟩
        | false =>
          rw [hb] at hq hst
          rw [if_neg (by simp)] at hst
          generalize m.sv = sx at *
          generalize y.sv = sy at *
          simp (config := { maxSteps := 1000000 }) only [d0, d1, d2, c1, c2, wk, q1, q2, r1, r2, hlen, hlen', g18, g18', ↓hq, again_n, reduceCtorEq, Nat.reduceEqDiff, eq_self, decide_true,  true_and, List.getElem?_cons_zero, List.getElem?_cons_succ, Nat.zero_add, den_nil, den_o0, ↓gd_tt, ↓gd_ft, den_o1, kont_app, den_skip, den_reg, den_regP, den_seq, den_cond, den_block, den_b, ↓reduceIte, ↓e_load, ↓e_idxS, ↓e_eqv, ↓e_mv, ↓e_fld, ↓e_bin, ↓u_binV, ↓binI, Opd.ev, Sx.get, put, putO, del, dels, rd, Int.toNat_natCast]
          exact ⟨k, ⟨[(0, 0), (1, 0), (2, 0), (3, 0), (4, 0)], by simp only [ren_mcs, ren_ints, EntM, compat, apartM, keysBelow, eta, idHs, rd, SV.ren, SV.renL, Option.getD_some, List.getElem?_cons_zero, List.getElem?_cons_succ, List.length_cons, List.length_nil, Nat.zero_add, Nat.add_zero, Nat.reduceAdd, Nat.reduceSub, Nat.reduceEqDiff, Nat.reduceLT, Nat.reduceLeDiff, ↓reduceIte, Kind.isOwn, List.take_succ_cons, List.take_zero, List.nil_append, List.cons_append, and_self, true_and, exists_eq_left', Option.some.injEq, List.drop_zero, List.take_length, Nat.le_refl, ne_eq, not_false_eq_true, implies_true, List.not_mem_nil, false_imp_iff, Bool.false_or, Bool.true_or, forall_const, reduceCtorEq, List.mem_cons, or_false, forall_eq_or_imp, forall_eq, Nat.succ_ne_self, ren_ints], by simp only [hst, frEnt, geto, eta, SV.ren, Option.getD_some, List.getElem?_cons_zero, List.getElem?_cons_succ, List.length_cons, List.length_nil, Nat.zero_add, Nat.add_zero, Nat.reduceAdd, Nat.reduceSub, Nat.reduceEqDiff, ↓reduceIte, and_self, Nat.succ_ne_self]⟩, by omega, by omega⟩
  · obtain rfl : i = l.length := by omega
    have c1 : ¬ (l.length : Int) < (l.length : Int) := by omega
    have tkk : (keptL l l').take l.length = keptL l l' := List.take_of_length_le (by omega)
    rcases Nat.eq_zero_or_pos l.length with h0 | h0
    · simp only [nlS_z h0, nlM_z h0, nlN_z h0]
      simp (config := { maxSteps := 1000000 }) only [c1, again_x, Nat.reduceEqDiff, Int.reduceNeg, eq_self, decide_false,  true_and, and_true, List.getElem?_cons_zero, List.getElem?_cons_succ, Nat.zero_add, den_nil, den_o0, ↓gd_ft, den_o1, kont_app, den_reg, den_seq, den_cond, den_exit, den_ret, den_xb, den_xc, finE_r, ↓reduceIte, ↓e_load, ↓e_mv, ↓e_fld, ↓e_bin, ↓e_len, ↓u_binV, ↓binI, ↓evRes, Opd.ev, Sx.get, put, putO, del, dels, rd, retOf, SV.ren]
      exact ⟨[(0, 0), (1, 0)], rfl, by simp [compat, apartM, keysBelow, idHs, List.take_succ_cons, List.nil_append, List.cons_append, List.take_nil, and_self]⟩
    · simp only [nlS_p h0, nlM_p h0, nlN_p h0]
      simp (config := { maxSteps := 1000000 }) only [c1, tkk, again_x, Nat.reduceEqDiff, Nat.reduceAdd, Int.reduceNeg, eq_self, decide_false,  true_and, List.getElem?_cons_zero, List.getElem?_cons_succ, Nat.zero_add, Nat.add_zero, den_nil, den_o0, ↓gd_ft, den_o1, kont_app, den_reg, den_seq, den_cond, den_exit, den_ret, den_xb, den_xc, finE_r, ↓reduceIte, ↓e_load, ↓e_mv, ↓e_fld, ↓e_bin, ↓e_len, ↓u_binV, ↓binI, ↓evRes, Opd.ev, Sx.get, put, putO, del, dels, rd, retOf, eta, SV.ren]
      exact ⟨[(0, 0), (1, 0), (4, 0)], by simp [ren_ints, EntM, compat, apartM, keysBelow, eta, idHs, rd, Option.getD_some, List.length_cons, List.length_nil, Nat.zero_add, Nat.add_zero, Nat.reduceAdd, Nat.reduceLeDiff, ↓reduceIte, Kind.isOwn, List.take_succ_cons, List.take_zero, List.nil_append, List.cons_append, and_self, true_and, exists_eq_left', Option.some.injEq, ne_eq, implies_true, List.not_mem_nil, Bool.true_or, forall_const, ren_ints], by simp [Option.getD_some, List.length_cons, List.length_nil, Nat.zero_add, Nat.add_zero, Nat.reduceAdd, Nat.reduceLeDiff]⟩
end Go.Proofs.YtkfbkooobfepeaaDoor

/- Contracts of the kept members. -/
namespace Go.Proofs.YtkfbkooobfepeaaDoor
open Go Go.Sx Sf
set_option maxRecDepth 100000
set_option linter.unusedVariables false
variable {tS : List (Nat × List SV)}
def gKeptN : GS
  | [.agg [.int .i64 _, .int .i64 _, .slc 0 0 18 len _], .agg [.int .i64 _, .int .i64 _, .slc 1 0 18 len' _]], [(0, ⟨.view, cells⟩), (1, ⟨.view, cells'⟩)] => match unM cells.length cells, unM cells'.length cells' with
    | some l, some l' => if len = l.length ∧ len' = l'.length ∧ l.length ≤ 1000 ∧ l'.length ≤ 1000 then
        some (nlS 2 1 l.length, nlM 2 3 (ints (keptL l l')) [] l.length, nlN 2 l.length) else none
    | _, _ => none
  | _, _ => none
theorem gKeptN_of {f : FuncId} (h : ∀ (e n e' n' : Int) (l l' : List Mb) (hP : Pub l) (hP' : Pub l') (hl : l.length ≤ 1000) (hl' : l'.length ≤ 1000) (cap cap' : Option Nat),
    Fun Tryd.prog tS f [.agg [.int .i64 e, .int .i64 n, .slc 0 0 18 l.length cap], .agg [.int .i64 e', .int .i64 n', .slc 1 0 18 l'.length cap']] [(0, ⟨.view, mcs l⟩), (1, ⟨.view, mcs l'⟩)] 2
      (nlS 2 1 l.length) (nlM 2 3 (ints (keptL l l')) [] l.length) (nlN 2 l.length)) : FunS Tryd.prog tS f gKeptN := by
  intro a0 m0 r m1 n1 hr
  unfold gKeptN at hr
  split at hr
  · split at hr
    · rename_i l l' hl hl'
      split at hr
      · rename_i hc
        obtain ⟨h1, h2, h4, h5⟩ := hc
        cases hr
        subst h1; subst h2
        obtain ⟨rfl, hP⟩ := unM_some hl
        obtain ⟨rfl, hP'⟩ := unM_some hl'
        refine ⟨h _ _ _ _ l l' hP hP' h4 h5 _ _, ?_⟩
        rcases Nat.eq_zero_or_pos l.length with h0 | h0
        · rw [nlM_z h0]; simp [freshB]
        · rw [nlM_p h0]; simp [freshB]
      · cases hr
    · cases hr
  · cases hr
theorem gKept16 : FunS Tryd.prog tS 16 gKeptN := gKeptN_of f16
theorem gKept17 : FunS Tryd.prog tS 17 gKeptN := gKeptN_of f17
def gSameI : GS
  | [.slc 0 0 1 len _, .slc 1 0 1 len' _], [(0, ⟨.view, cells⟩), (1, ⟨.view, cells'⟩)] => match unI cells, unI cells' with
    | some l, some l' => if len = l.length ∧ len' = l'.length ∧ l.length ≤ 1000 ∧ l'.length ≤ 1000 then some (.bool (decide (l = l')), [], 2) else none
    | _, _ => none
  | [.val (.slice none 0 0), .val (.slice none 0 0)], [] => some (.bool true, [], 0)
  | _, _ => none
theorem gSameI_ok : FunS Tryd.prog tS 15 gSameI := by
  intro a0 m0 r m1 n1 h
  unfold gSameI at h
  split at h
  · split at h
    · rename_i l l' hl hl'
      split at h
      · rename_i hc
        obtain ⟨h1, h2, h4, h5⟩ := hc
        cases h
        subst h1; subst h2
        rw [unI_some hl, unI_some hl']
        exact ⟨f15 l l' (by omega) (by omega) _ _, by simp [freshB]⟩
      · cases h
    · cases h
  · cases h; exact ⟨f15n, by simp [freshB]⟩
  · cases h
end Go.Proofs.YtkfbkooobfepeaaDoor

/- Package wire: the reading of an integer. -/
namespace Go.Proofs.YtkfbkooobfepeaaDoor
open Go Go.Sx Sf
set_option maxRecDepth 100000
set_option linter.unusedVariables false
variable {tS : List (Nat × List SV)}
def kOf (h : Nat) : Nat := if h < 128 then 127 - h else h - 128
def flU (h : Nat) (c : UInt8) : UInt8 := if h < 128 then UInt8.ofNat (255 - c.toNat) else c
def valB (l : List UInt8) : Nat := l.foldl (fun a c => a * 256 + c.toNat) 0
def decS (b : List UInt8) : Int × Nat × Int := match b with
  | [] => (0, 0, 5)
  | c :: r => if kOf c.toNat > 8 then (0, 0, 6) else if r.length < kOf c.toNat then (0, 0, 5) else
    if ((r.take (kOf c.toNat)).map (flU c.toNat)).head? = some 0 then (0, 0, 6) else
    if valB ((r.take (kOf c.toNat)).map (flU c.toNat)) ≥ 9223372036854775808 then (0, 0, 6) else
    ((if c.toNat < 128 then -1 - (valB ((r.take (kOf c.toNat)).map (flU c.toNat)) : Int) else (valB ((r.take (kOf c.toNat)).map (flU c.toNat)) : Int)), kOf c.toNat + 1, 0)
theorem fold_lt : ∀ (l : List UInt8) (a : Nat), l.foldl (fun a c => a * 256 + c.toNat) a < (a + 1) * 256 ^ l.length
  | [], a => by simp
  | c :: l, a => by
    have := fold_lt l (a * 256 + c.toNat)
    have hc := c.toNat_lt
    simp only [List.foldl_cons, List.length_cons, Nat.pow_succ]
    have h1 : (a * 256 + c.toNat + 1) * 256 ^ l.length ≤ (a + 1) * 256 * 256 ^ l.length := Nat.mul_le_mul_right _ (by omega)
    have h2 : (a + 1) * 256 * 256 ^ l.length = (a + 1) * (256 ^ l.length * 256) := by rw [Nat.mul_assoc, Nat.mul_comm 256]
    omega
theorem valB_lt (l : List UInt8) : valB l < 256 ^ l.length := by have := fold_lt l 0; unfold valB; omega
end Go.Proofs.YtkfbkooobfepeaaDoor

/- The plain law of reading an integer. -/
namespace Go.Proofs.YtkfbkooobfepeaaDoor
open Go Go.Sx Sf
set_option maxRecDepth 100000
set_option linter.unusedSimpArgs false
set_option linter.unusedVariables false
def valR : List UInt8 → Nat
  | [] => 0
  | c :: l => valR l * 256 + c.toNat
theorem valB_R (l : List UInt8) : valB l = valR l.reverse := by
  unfold valB
  rw [List.foldl_eq_foldr_reverse]
  generalize l.reverse = q
  induction q with
  | nil => rfl
  | cons c q ih => simp only [List.foldr_cons, valR, ih]
theorem valR_byN : ∀ (l : List UInt8) (j : Nat) (c : UInt8), l[j]? = some c → byN (valR l) j = c.toNat
  | [], j, c, h => by simp at h
  | x :: l, 0, c, h => by
    simp at h; subst h
    have := x.toNat_lt
    simp only [valR, byN, Nat.pow_zero, Nat.div_one]; omega
  | x :: l, j + 1, c, h => by
    have hx := x.toNat_lt
    rw [byN_succ, show valR (x :: l) / 256 = valR l by simp only [valR]; omega]
    exact valR_byN l j c (by simpa using h)
theorem valB_byN {l : List UInt8} {i : Nat} {c : UInt8} (hi : l[i]? = some c) : byN (valB l) (l.length - 1 - i) = c.toNat := by
  have hl : i < l.length := (List.getElem?_eq_some_iff.1 hi).1
  rw [valB_R]
  apply valR_byN
  rw [List.getElem?_reverse (by omega)]
  rw [show l.length - 1 - (l.length - 1 - i) = i by omega]
  exact hi
theorem valB_top {c : UInt8} {l : List UInt8} (h : c ≠ 0) : 256 ^ l.length ≤ valB (c :: l) := by
  have hf : ∀ (l : List UInt8) (a : Nat), a * 256 ^ l.length ≤ l.foldl (fun a c => a * 256 + c.toNat) a := by
    intro l
    induction l with
    | nil => intro a; simp
    | cons x l ih =>
      intro a
      have := ih (a * 256 + x.toNat)
      simp only [List.foldl_cons, List.length_cons, Nat.pow_succ]
      have h1 : a * (256 ^ l.length * 256) ≤ (a * 256 + x.toNat) * 256 ^ l.length := by
        rw [Nat.mul_comm (256 ^ l.length) 256, ← Nat.mul_assoc]; exact Nat.mul_le_mul_right _ (by omega)
      omega
  have h0 : 1 ≤ c.toNat := by
    rcases Nat.eq_zero_or_pos c.toNat with h1 | h1
    · exact absurd (UInt8.toNat_inj.1 (by simpa using h1)) h
    · exact h1
  unfold valB
  simp only [List.foldl_cons, Nat.zero_mul, Nat.zero_add]
  have := hf l c.toNat
  have h1 : 1 * 256 ^ l.length ≤ c.toNat * 256 ^ l.length := Nat.mul_le_mul_right _ h0
  omega
def numS (c : UInt8) (D : List UInt8) : Int := if c.toNat < 128 then -1 - (valB D : Int) else (valB D : Int)
theorem numS_facts {c : UInt8} {D : List UInt8} (h : valB D < 9223372036854775808) : R64 (numS c D) ∧ magN (numS c D) = valB D ∧ (numS c D < 0 ↔ c.toNat < 128) := by
  unfold numS magN R64
  by_cases hc : c.toNat < 128
  · simp only [hc, if_true]
    rw [if_pos (by omega)]
    exact ⟨by omega, by omega, by simp; omega⟩
  · simp only [hc, if_false]
    rw [if_neg (by omega)]
    exact ⟨by omega, by omega, by simp⟩
theorem flU_inv {h : Nat} {y : UInt8} : UInt8.ofNat (if h < 128 then 255 - (flU h y).toNat else (flU h y).toNat) = y := by
  have hy := y.toNat_lt
  apply UInt8.toNat_inj.1
  unfold flU
  by_cases hh : h < 128
  · simp only [hh, if_true, UInt8.toNat_ofNat']; omega
  · simp only [hh, if_false, UInt8.toNat_ofNat']; omega
theorem enc_of_dec {c : UInt8} {r : List UInt8} (h8 : kOf c.toNat ≤ 8) (hr : kOf c.toNat ≤ r.length) (hz : ((r.take (kOf c.toNat)).map (flU c.toNat)).head? ≠ some 0)
    (hv : valB ((r.take (kOf c.toNat)).map (flU c.toNat)) < 9223372036854775808) : encI (numS c ((r.take (kOf c.toNat)).map (flU c.toNat))) = c :: r.take (kOf c.toNat) := by
  obtain ⟨hn, hm, hs⟩ := numS_facts (c := c) hv
  obtain ⟨K, h1, h2, h3, h4⟩ := encI_form' hn
  rw [h4]
  rw [hm] at h2 h3
  have hcl := c.toNat_lt
  generalize hk : kOf c.toNat = k at *
  generalize hD : (r.take k).map (flU c.toNat) = D at *
  have hDl : D.length = k := by rw [← hD]; simp; omega
  have hK : K = k := by
    have hlt := valB_lt D
    rw [hDl] at hlt
    cases D with
    | nil =>
      simp at hDl
      rcases h3 with h3 | h3
      · omega
      · have : 0 < 256 ^ (K - 1) := Nat.pow_pos (by decide)
        simp [valB] at h3
    | cons d D =>
      have hd : d ≠ 0 := by intro h; apply hz; simp [h]
      have htop := valB_top (l := D) hd
      simp at hDl
      rcases Nat.lt_trichotomy K k with hlt2 | rfl | hgt
      · have : 256 ^ K ≤ 256 ^ D.length := Nat.pow_le_pow_right (by decide) (by omega)
        omega
      · rfl
      · rcases h3 with h3 | h3
        · omega
        · have : 256 ^ k ≤ 256 ^ (K - 1) := Nat.pow_le_pow_right (by decide) (by omega)
          omega
  subst hK
  congr 1
  · apply UInt8.toNat_inj.1
    have hkk : kOf c.toNat = K := hk
    unfold kOf at hkk
    by_cases hc : c.toNat < 128
    · rw [if_pos (hs.2 hc), UInt8.toNat_ofNat']
      rw [if_pos hc] at hkk; omega
    · rw [if_neg (fun h => hc (hs.1 h)), UInt8.toNat_ofNat']
      rw [if_neg hc] at hkk; omega
  · apply List.ext_getElem?
    intro i
    by_cases hi : i < K
    · obtain ⟨y, hy⟩ : ∃ y, r[i]? = some y := ⟨_, List.getElem?_eq_getElem (by omega)⟩
      have hDi : D[i]? = some (flU c.toNat y) := by
        rw [← hD, List.getElem?_map, List.getElem?_take_of_lt hi, hy]; rfl
      have hb := valB_byN hDi
      rw [hDl] at hb
      rw [List.getElem?_take_of_lt hi, hy, List.getElem?_map, List.getElem?_reverse (by simpa using hi), List.length_range, List.getElem?_range (by omega)]
      simp only [Option.map_some, Option.some.injEq]
      rw [hm, hb]
      have := flU_inv (h := c.toNat) (y := y)
      by_cases hc : c.toNat < 128
      · rw [if_pos (hs.2 hc)]; rw [if_pos hc] at this; exact this
      · rw [if_neg (fun h => hc (hs.1 h))]; rw [if_neg hc] at this; exact this
    · rw [List.getElem?_eq_none (by simp; omega), List.getElem?_eq_none (by simp; omega)]
theorem enc_dec {b : List UInt8} {n : Int} {u : Nat} (h : decS b = (n, u, 0)) : R64 n ∧ u ≤ b.length ∧ b.take u = encI n := by
  unfold decS at h
  split at h
  · simp at h
  · rename_i c r
    split at h
    · simp at h
    · split at h
      · simp at h
      · split at h
        · simp at h
        · split at h
          · simp at h
          · rename_i h1 h2 h3 h4
            simp only [Prod.mk.injEq, and_true] at h
            obtain ⟨h5, rfl⟩ := h
            have hn : n = numS c ((r.take (kOf c.toNat)).map (flU c.toNat)) := h5.symm
            rw [hn, enc_of_dec (by omega) (by omega) h3 (by omega)]
            exact ⟨(numS_facts (by omega)).1, by simp; omega, by simp⟩
end Go.Proofs.YtkfbkooobfepeaaDoor

/- The reference's reading of an integer. -/
namespace Go.Proofs.YtkfbkooobfepeaaDoor
open Go Go.Sx Sf
set_option maxRecDepth 100000
set_option linter.unusedVariables false
variable {tS : List (Nat × List SV)}
end Go.Proofs.YtkfbkooobfepeaaDoor

/- Package wire and the reference: the reading of counts and of texts. -/
namespace Go.Proofs.YtkfbkooobfepeaaDoor
open Go Go.Sx Sf
set_option maxRecDepth 100000
set_option linter.unusedVariables false
variable {tS : List (Nat × List SV)}
theorem dec_err {b : List UInt8} {n : Int} {u : Nat} {e : Int} (h : decS b = (n, u, e)) : (e = 0 ∧ R64 n ∧ u ≤ b.length ∧ 0 < u) ∨ (e ≠ 0 ∧ n = 0 ∧ u = 0) := by
  by_cases he : e = 0
  · subst he
    obtain ⟨h1, h2, h3⟩ := enc_dec h
    refine .inl ⟨rfl, h1, h2, ?_⟩
    have := congrArg List.length h3
    simp only [encI, List.length_cons, List.length_take] at this
    omega
  · refine .inr ⟨he, ?_⟩
    unfold decS at h
    split at h
    · simp at h; exact ⟨h.1.symm, h.2.1.symm⟩
    · split at h
      · simp at h; exact ⟨h.1.symm, h.2.1.symm⟩
      · split at h
        · simp at h; exact ⟨h.1.symm, h.2.1.symm⟩
        · split at h
          · simp at h; exact ⟨h.1.symm, h.2.1.symm⟩
          · split at h
            · simp at h; exact ⟨h.1.symm, h.2.1.symm⟩
            · simp only [Prod.mk.injEq] at h
              exact absurd h.2.2.symm he
def cntE (b : List UInt8) (s : Nat) : Int := if (decS b).2.2 ≠ 0 then (decS b).2.2 else if (decS b).1 < 0 then 6 else if (decS b).1 > (((b.length - (decS b).2.1) / s : Nat) : Int) then 5 else 0
end Go.Proofs.YtkfbkooobfepeaaDoor

/- Package wire and the reference: the reading of texts. -/
namespace Go.Proofs.YtkfbkooobfepeaaDoor
open Go Go.Sx Sf
set_option maxRecDepth 100000
set_option linter.unusedVariables false
variable {tS : List (Nat × List SV)}
theorem cnt_ok {b : List UInt8} {s : Nat} (h : cntE b s = 0) : ∃ n u : Nat, decS b = ((n : Int), u, 0) ∧ u ≤ b.length ∧ n ≤ (b.length - u) / s ∧ 0 < u := by
  rcases hx : decS b with ⟨n, u, e⟩
  unfold cntE at h
  rw [hx] at h
  simp only at h
  split at h
  · rename_i he; exact absurd h he
  · rename_i he
    have he : e = 0 := by simpa using he
    subst he
    rcases dec_err hx with ⟨_, h1, h2, h3⟩ | ⟨he, _⟩
    · split at h
      · simp at h
      · split at h
        · simp at h
        · exact ⟨n.toNat, u, by rw [show n = ((n.toNat : Nat) : Int) by omega]; simp, h2, by omega, h3⟩
    · exact absurd rfl he
def bytS (b : List UInt8) : List UInt8 × Nat × Int := if cntE b 1 ≠ 0 then ([], 0, cntE b 1) else ((b.drop (decS b).2.1).take (decS b).1.toNat, (decS b).2.1 + (decS b).1.toNat, 0)
end Go.Proofs.YtkfbkooobfepeaaDoor

/- Package wire and the reference: the reading of lists of integers. -/
namespace Go.Proofs.YtkfbkooobfepeaaDoor
open Go Go.Sx Sf
set_option maxRecDepth 100000
set_option linter.unusedVariables false
variable {tS : List (Nat × List SV)}
end Go.Proofs.YtkfbkooobfepeaaDoor

/- The reader of package custodian. -/
namespace Go.Proofs.YtkfbkooobfepeaaDoor
open Go Go.Sx Sf
set_option maxRecDepth 100000
set_option linter.unusedVariables false
variable {tS : List (Nat × List SV)}
def rdB (o len : Nat) (e : Int) : Blk := ⟨.own 68, [.slc 1 o 1 len none, .int .i64 e]⟩
end Go.Proofs.YtkfbkooobfepeaaDoor

/- The reader of package custodian: the parts of a member. -/
namespace Go.Proofs.YtkfbkooobfepeaaDoor
open Go Go.Sx Sf
set_option maxRecDepth 100000
set_option linter.unusedVariables false
variable {tS : List (Nat × List SV)}
theorem Pub.take {l : List Mb} (h : Pub l) (i : Nat) : Pub (l.take i) := fun m hm => h m (List.mem_of_mem_take hm)
theorem Pub.set {ms : List Mb} {i : Nat} {m : Mb} (hP : Pub ms) (hm : m.pub.length = 16) : Pub (ms.set i m) := fun x hx => by
  rcases List.mem_or_eq_of_mem_set hx with h | h
  · exact hP x h
  · rw [h]; exact hm

structure RS where
  rest : List UInt8
  e : Int
  ms : List Mb
def RS.name (i : Nat) (m : Mb) (s : RS) : RS := if s.e ≠ 0 then s else if (bytS s.rest).2.2 ≠ 0 then { s with e := (bytS s.rest).2.2 } else ⟨s.rest.drop (bytS s.rest).2.1, 0, s.ms.set i { m with name := (bytS s.rest).1 }⟩
def RS.pub (i : Nat) (m : Mb) (s : RS) : RS := if s.e ≠ 0 then s else if s.rest.length < 16 then { s with e := 5 } else ⟨s.rest.drop 16, 0, s.ms.set i { m with pub := s.rest.take 16 }⟩
def RS.height (i : Nat) (m : Mb) (s : RS) : RS := if s.e ≠ 0 then s else if (decS s.rest).2.2 ≠ 0 then { s with e := (decS s.rest).2.2 } else ⟨s.rest.drop (decS s.rest).2.1, 0, s.ms.set i { m with h := (decS s.rest).1 }⟩
def RS.mem (b : List UInt8) (t : RS) : Mem := [(0, rdB (b.length - t.rest.length) t.rest.length t.e), (2, ⟨.own 47, mcs t.ms⟩)]
theorem byt_err {b : List UInt8} {s : List UInt8} {u : Nat} {e : Int} (h : bytS b = (s, u, e)) : (e = 0 ∧ u ≤ b.length ∧ 0 < u) ∨ (e ≠ 0 ∧ u = 0) := by
  unfold bytS at h
  by_cases he : cntE b 1 = 0
  · rw [if_neg (by simpa using he)] at h
    obtain ⟨n, q, hx, h1, h2, h3⟩ := cnt_ok he
    rw [hx] at h
    simp only [Prod.mk.injEq, Int.toNat_natCast] at h
    rw [Nat.div_one] at h2
    obtain ⟨_, rfl, rfl⟩ := h
    exact .inl ⟨rfl, by omega, by omega⟩
  · rw [if_pos he] at h
    simp only [Prod.mk.injEq] at h
    obtain ⟨_, rfl, rfl⟩ := h
    exact .inr ⟨he, rfl⟩
end Go.Proofs.YtkfbkooobfepeaaDoor

/- Decode of package custodian. -/
namespace Go.Proofs.YtkfbkooobfepeaaDoor
open Go Go.Sx Sf
set_option maxRecDepth 100000
set_option linter.unusedVariables false
variable {tS : List (Nat × List SV)}
def zM : Mb := ⟨[], List.replicate 16 0, 0⟩
theorem valid_pos' {e n : Int} {l : List Mb} (h : validB e n l = true) : 0 < l.length := by
  unfold validB at h
  simp only [Bool.and_eq_true, decide_eq_true_eq] at h
  omega
def RS.p1 (i : Nat) (s : RS) : RS := s.name i (s.ms.getD i zM)
def RS.p2 (i : Nat) (s : RS) : RS := (s.p1 i).pub i ((s.p1 i).ms.getD i zM)
def RS.one (i : Nat) (s : RS) : RS := (s.p2 i).height i ((s.p2 i).ms.getD i zM)
def RS.part (i : Nat) (s : RS) : Nat → RS
  | 0 => s
  | 1 => s.p1 i
  | 2 => s.p2 i
  | _ => s.one i
def SInv (t : List UInt8) (n : Nat) (s : RS) : Prop := s.ms.length = n ∧ Pub s.ms ∧ s.rest = t.drop (t.length - s.rest.length) ∧ s.rest.length ≤ t.length
theorem drop_inv {t r : List UInt8} {k : Nat} (h : r = t.drop (t.length - r.length)) (hl : r.length ≤ t.length) (hk : k ≤ r.length) : r.drop k = t.drop (t.length - (r.drop k).length) ∧ (r.drop k).length ≤ t.length := by
  have h1 : (r.drop k).length = r.length - k := by simp
  rw [h1]
  refine ⟨?_, by omega⟩
  conv => lhs; rw [h]
  rw [List.drop_drop]
  congr 1; omega
theorem pub_of {ms : List Mb} {i : Nat} (h : Pub ms) : (ms.getD i zM).pub.length = 16 := by
  rw [List.getD_eq_getElem?_getD]
  cases hq : ms[i]? with
  | none => simp [zM]
  | some m => exact h m (List.mem_of_getElem? hq)
theorem SInv.name {t : List UInt8} {n i : Nat} {s : RS} (h : SInv t n s) : SInv t n (s.name i (s.ms.getD i zM)) := by
  obtain ⟨h1, h2, h3, h4⟩ := h
  unfold RS.name
  split
  · exact ⟨h1, h2, h3, h4⟩
  · split
    · exact ⟨h1, h2, h3, h4⟩
    · rcases hx : bytS s.rest with ⟨q, u, e⟩
      have hu : u ≤ s.rest.length := by rcases byt_err hx with ⟨_, h, _⟩ | ⟨_, h⟩ <;> omega
      exact ⟨by simpa using h1, h2.set (pub_of h2), drop_inv h3 h4 hu⟩
theorem SInv.pub {t : List UInt8} {n i : Nat} {s : RS} (h : SInv t n s) : SInv t n (s.pub i (s.ms.getD i zM)) := by
  obtain ⟨h1, h2, h3, h4⟩ := h
  unfold RS.pub
  split
  · exact ⟨h1, h2, h3, h4⟩
  · split
    · exact ⟨h1, h2, h3, h4⟩
    · exact ⟨by simpa using h1, h2.set (by simp; omega), drop_inv h3 h4 (by omega)⟩
theorem SInv.height {t : List UInt8} {n i : Nat} {s : RS} (h : SInv t n s) : SInv t n (s.height i (s.ms.getD i zM)) := by
  obtain ⟨h1, h2, h3, h4⟩ := h
  unfold RS.height
  split
  · exact ⟨h1, h2, h3, h4⟩
  · split
    · exact ⟨h1, h2, h3, h4⟩
    · rcases hx : decS s.rest with ⟨q, u, e⟩
      have hu : u ≤ s.rest.length := by rcases dec_err hx with ⟨_, _, h, _⟩ | ⟨_, _, h⟩ <;> omega
      exact ⟨by simpa using h1, h2.set (pub_of h2), drop_inv h3 h4 hu⟩
theorem SInv.part {t : List UInt8} {n i : Nat} {s : RS} (h : SInv t n s) : ∀ j, SInv t n (s.part i j)
  | 0 => h
  | 1 => h.name
  | 2 => (SInv.name h).pub
  | _ + 3 => (SInv.pub (SInv.name h)).height
end Go.Proofs.YtkfbkooobfepeaaDoor

/- Decode of the reference. -/
namespace Go.Proofs.YtkfbkooobfepeaaDoor
open Go Go.Sx Sf
set_option maxRecDepth 100000
set_option linter.unusedVariables false
variable {tS : List (Nat × List SV)}
end Go.Proofs.YtkfbkooobfepeaaDoor

/- The plain law of Decode and Encode: the two Decodes are the same, and they undo Encode. -/
namespace Go.Proofs.YtkfbkooobfepeaaDoor
open Go Go.Sx Sf
set_option maxRecDepth 100000
set_option linter.unusedSimpArgs false
set_option linter.unusedVariables false
end Go.Proofs.YtkfbkooobfepeaaDoor

/- The round trip of Decode and Encode. -/
namespace Go.Proofs.YtkfbkooobfepeaaDoor
open Go Go.Sx Sf
set_option maxRecDepth 100000
set_option linter.unusedVariables false
end Go.Proofs.YtkfbkooobfepeaaDoor

/- The law CustodianDecode: it computes true. -/
namespace Go.Proofs.YtkfbkooobfepeaaDoor
open Go Go.Sx Sf
set_option maxRecDepth 100000
set_option linter.unusedVariables false
variable {tS : List (Nat × List SV)}
theorem encMs_few : ∀ {l : List Mb}, Pub l → (l.all fun m => decide (m.name.length ≤ 50)) = true → (encMs l).length ≤ 100 * l.length
  | [], _, _ => by simp [encMs]
  | m :: l, hP, h => by
    simp only [List.all_cons, Bool.and_eq_true, decide_eq_true_eq] at h
    have h1 := encMs_few hP.tail h.2
    have h2 := encI_len m.name.length
    have h3 := encI_len m.h
    have h4 := hP.head
    simp only [encMs, encMb, encS, List.length_append, List.length_cons]; omega
theorem encode_few {e n : Int} {l : List Mb} (hP : Pub l) (h : fewB l = true) : (encodeS e n l).length ≤ 2 ^ 20 := by
  unfold fewB at h
  simp only [Bool.and_eq_true, decide_eq_true_eq] at h
  have h1 := encMs_few hP h.1
  have h2 := encIs3 e n (l.length : Int)
  simp only [encodeS, List.length_append]; omega
end Go.Proofs.YtkfbkooobfepeaaDoor
