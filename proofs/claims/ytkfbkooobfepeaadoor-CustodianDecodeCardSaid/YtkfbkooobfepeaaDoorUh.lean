/- The proof, part Uh: the texts DecH, SanA, HasA, HasB, HasC, HasD, HasE, HasF, SanT, MemE, MemF, EncA, RefA, PlaD, PlaE, LawC. -/
import Derived.Test.YtkfbkooobfepeaaDoorUg
/- Decode of package custodian. -/
namespace Go.Proofs.YtkfbkooobfepeaaDoor
open Go Go.Sx Sf
set_option maxRecDepth 100000
set_option linter.unusedVariables false
variable {tS : List (Nat × List SV)}
def zM : Mb := ⟨[], List.replicate 16 0, 0⟩
theorem rdN_facts {b : List UInt8} : ∀ (k z : Nat) {l : List Int} {u : Nat} {e : Int}, z ≤ b.length → rdN b k z = (l, u, e) → u ≤ b.length ∧ (e ≠ 0 → l = [] ∧ u = 0)
  | 0, z, l, u, e, hz, h => by
    simp only [rdN, Prod.mk.injEq] at h
    obtain ⟨rfl, rfl, rfl⟩ := h
    exact ⟨hz, fun h => absurd rfl h⟩
  | k + 1, z, l, u, e, hz, h => by
    rcases hq : decS (b.drop z) with ⟨x, q, e'⟩
    simp only [rdN, hq] at h
    by_cases he : e' = 0
    · rw [if_neg (by simpa using he)] at h
      have hzq : z + q ≤ b.length := by
        rcases dec_err hq with ⟨_, _, h2, _⟩ | ⟨h, _, _⟩
        · simp at h2; omega
        · exact absurd he h
      rcases hr : rdN b k (z + q) with ⟨l', u', e''⟩
      obtain ⟨h1, h2⟩ := rdN_facts k (z + q) hzq hr
      rw [hr] at h
      simp only at h
      split at h
      · simp only [Prod.mk.injEq] at h
        obtain ⟨rfl, rfl, rfl⟩ := h
        exact ⟨Nat.zero_le _, fun _ => ⟨rfl, rfl⟩⟩
      · simp only [Prod.mk.injEq] at h
        obtain ⟨rfl, rfl, rfl⟩ := h
        exact ⟨h1, fun h => absurd rfl h⟩
    · rw [if_pos he] at h
      simp only [Prod.mk.injEq] at h
      obtain ⟨rfl, rfl, rfl⟩ := h
      exact ⟨Nat.zero_le _, fun _ => ⟨rfl, rfl⟩⟩
theorem ints_facts {b : List UInt8} {l : List Int} {u : Nat} {e : Int} (h : intsS b = (l, u, e)) : u ≤ b.length ∧ (e ≠ 0 → l = [] ∧ u = 0) := by
  unfold intsS at h
  by_cases he : cntE b 1 = 0
  · rw [if_neg (by simpa using he)] at h
    obtain ⟨n, q, hx, h1, _, _⟩ := cnt_ok he
    rw [hx] at h
    exact rdN_facts _ _ h1 h
  · rw [if_pos he] at h
    simp only [Prod.mk.injEq] at h
    obtain ⟨rfl, rfl, rfl⟩ := h
    exact ⟨Nat.zero_le _, fun _ => ⟨rfl, rfl⟩⟩
theorem valid_pos' {e n : Int} {l : List Mb} (h : validB e n l = true) : 0 < l.length := by
  unfold validB at h
  simp only [Bool.and_eq_true, decide_eq_true_eq] at h
  omega
def RS.p1 (i : Nat) (s : RS) : RS := s.name i (s.ms.getD i zM)
def RS.p2 (i : Nat) (s : RS) : RS := (s.p1 i).pub i ((s.p1 i).ms.getD i zM)
def RS.one (i : Nat) (s : RS) : RS := (s.p2 i).height i ((s.p2 i).ms.getD i zM)
def RS.upto (s : RS) : Nat → RS
  | 0 => s
  | k + 1 => (RS.upto s k).one k
structure DR where
  ep : Int
  need : Int
  ms : List Mb
  e : Int
def decodeS (t : List UInt8) : DR :=
  let x := intsS t
  if x.2.2 ≠ 0 then ⟨0, 0, [], x.2.2⟩ else match x.1 with
  | [a, b, c] => if c < 1 ∨ c > 16 then ⟨0, 0, [], 6⟩ else
    let s := RS.upto ⟨t.drop x.2.1, 0, List.replicate c.toNat zM⟩ c.toNat
    if s.e ≠ 0 then ⟨0, 0, [], s.e⟩ else if s.rest.length > 0 ∨ validB a b s.ms = false then ⟨0, 0, [], 6⟩ else ⟨a, b, s.ms, 0⟩
  | _ => ⟨0, 0, [], 6⟩
def RS.part (i : Nat) (s : RS) : Nat → RS
  | 0 => s
  | 1 => s.p1 i
  | 2 => s.p2 i
  | _ => s.one i
theorem RS.part3 (i : Nat) (s : RS) : s.part i 3 = s.one i := rfl
def SInv (t : List UInt8) (n : Nat) (s : RS) : Prop := s.ms.length = n ∧ Pub s.ms ∧ s.rest = t.drop (t.length - s.rest.length) ∧ s.rest.length ≤ t.length
theorem drop_inv {t r : List UInt8} {k : Nat} (h : r = t.drop (t.length - r.length)) (hl : r.length ≤ t.length) (hk : k ≤ r.length) : r.drop k = t.drop (t.length - (r.drop k).length) ∧ (r.drop k).length ≤ t.length := by
  have h1 : (r.drop k).length = r.length - k := by simp
  rw [h1]
  refine ⟨?_, by omega⟩
  conv => lhs; rw [h]
  rw [List.drop_drop]
  congr 1; omega
theorem pub_of {ms : List Mb} {i : Nat} (h : Pub ms) : (ms.getD i zM).pub.length = 16 := by
  rw [List.getD_eq_getElem?_getD]
  cases hq : ms[i]? with
  | none => simp [zM]
  | some m => exact h m (List.mem_of_getElem? hq)
theorem SInv.name {t : List UInt8} {n i : Nat} {s : RS} (h : SInv t n s) : SInv t n (s.name i (s.ms.getD i zM)) := by
  obtain ⟨h1, h2, h3, h4⟩ := h
  unfold RS.name
  split
  · exact ⟨h1, h2, h3, h4⟩
  · split
    · exact ⟨h1, h2, h3, h4⟩
    · rcases hx : bytS s.rest with ⟨q, u, e⟩
      have hu : u ≤ s.rest.length := by rcases byt_err hx with ⟨_, h, _⟩ | ⟨_, h⟩ <;> omega
      exact ⟨by simpa using h1, h2.set (pub_of h2), drop_inv h3 h4 hu⟩
theorem SInv.pub {t : List UInt8} {n i : Nat} {s : RS} (h : SInv t n s) : SInv t n (s.pub i (s.ms.getD i zM)) := by
  obtain ⟨h1, h2, h3, h4⟩ := h
  unfold RS.pub
  split
  · exact ⟨h1, h2, h3, h4⟩
  · split
    · exact ⟨h1, h2, h3, h4⟩
    · exact ⟨by simpa using h1, h2.set (by simp; omega), drop_inv h3 h4 (by omega)⟩
theorem SInv.height {t : List UInt8} {n i : Nat} {s : RS} (h : SInv t n s) : SInv t n (s.height i (s.ms.getD i zM)) := by
  obtain ⟨h1, h2, h3, h4⟩ := h
  unfold RS.height
  split
  · exact ⟨h1, h2, h3, h4⟩
  · split
    · exact ⟨h1, h2, h3, h4⟩
    · rcases hx : decS s.rest with ⟨q, u, e⟩
      have hu : u ≤ s.rest.length := by rcases dec_err hx with ⟨_, _, h, _⟩ | ⟨_, _, h⟩ <;> omega
      exact ⟨by simpa using h1, h2.set (pub_of h2), drop_inv h3 h4 hu⟩
theorem SInv.part {t : List UInt8} {n i : Nat} {s : RS} (h : SInv t n s) : ∀ j, SInv t n (s.part i j)
  | 0 => h
  | 1 => h.name
  | 2 => (SInv.name h).pub
  | _ + 3 => (SInv.pub (SInv.name h)).height
theorem SInv.upto {t : List UInt8} {n : Nat} {s : RS} (h : SInv t n s) : ∀ k, SInv t n (s.upto k)
  | 0 => h
  | k + 1 => by have := (SInv.upto h k).part (i := k) 3; rwa [RS.part3] at this
theorem rest_le {s : RS} {i : Nat} {m : Mb} : (s.name i m).rest.length ≤ s.rest.length ∧ (s.pub i m).rest.length ≤ s.rest.length ∧ (s.height i m).rest.length ≤ s.rest.length := by
  refine ⟨?_, ?_, ?_⟩
  · unfold RS.name; split; exact Nat.le_refl _; split; exact Nat.le_refl _; simp
  · unfold RS.pub; split; exact Nat.le_refl _; split; exact Nat.le_refl _; simp
  · unfold RS.height; split; exact Nat.le_refl _; split; exact Nat.le_refl _; simp
theorem rep_mcs (n : Nat) : rep n zM.sv = mcs (List.replicate n zM) := by
  have hP : Pub (List.replicate n zM) := fun m hm => by rw [List.eq_of_mem_replicate hm]; rfl
  have hz : zM.sv.length = 18 := rfl
  apply List.ext_getElem?
  intro j
  unfold rep
  by_cases hj : j < n * 18
  · rw [List.getElem?_map, List.getElem?_range (by rw [hz]; exact hj)]
    have hi : (List.replicate n zM)[j / 18]? = some zM := by rw [List.getElem?_replicate, if_pos (by omega)]
    have := cell_row hP hi (k := j % 18) (by omega)
    rw [show j / 18 * 18 + j % 18 = j by omega] at this
    rw [this, hz]
    simp only [Option.map_some]
    rw [List.getD_eq_getElem?_getD]
    have hlt : j % 18 < zM.sv.length := by rw [hz]; omega
    rw [List.getElem?_eq_getElem hlt]; rfl
  · rw [List.getElem?_eq_none (by simp [hz]; omega), List.getElem?_eq_none (by rw [len_mcs hP]; simp; omega)]
def noC : List SV := [.int .i64 0, .int .i64 0, .val (.slice none 0 0)]
def MD (t : List UInt8) (a b : Int) (n : Nat) (s : RS) : Mem := [(5, ⟨.own 24, [.int .i64 a, .int .i64 b, .slc 4 0 18 n none]⟩), (4, ⟨.own 47, mcs s.ms⟩),
  (2, ⟨.own 68, [.slc 1 (t.length - s.rest.length) 1 s.rest.length none, .int .i64 s.e]⟩), (1, ⟨.own 5, bys t⟩), (0, ⟨.own 24, noC⟩)]
def fns : List SV := [.fn 45 [.ptr 2 0] [], .fn 46 [.ptr 2 0] [], .fn 47 [.ptr 2 0] []]
def tabW : List (FuncId × GS) := [(43, gGetInts), (44, gDone), (45, gStep RS.name), (46, gStep RS.pub), (47, gStep RS.height), (12, gValid)]
theorem tabW_ok : ∀ x ∈ tabW, FunS Tryd.prog tS x.1 x.2 := by
  intro x hx
  simp only [tabW, List.mem_cons, List.not_mem_nil, or_false] at hx
  rcases hx with rfl | rfl | rfl | rfl | rfl | rfl
  · exact gGetInts_ok f43
  · exact gDone_ok
  · exact gStep_ok fun s i m => f45 s i m
  · exact gStep_ok fun s i m => f46 s i m
  · exact gStep_ok fun s i m => f47 s i m
  · exact gValid_ok
set_option maxHeartbeats 8000000 in
theorem f26 (t : List UInt8) (ht : t.length ≤ 2 ^ 36) :
    Fun Tryd.prog tS 26 [.str t] [] 0 (.tup [.agg [.int .i64 (decodeS t).ep, .int .i64 (decodeS t).need, nlS 0 18 (decodeS t).ms.length], .int .i64 (decodeS t).e]) (nlM 0 47 (mcs (decodeS t).ms) [] (decodeS t).ms.length) (nlN 0 (decodeS t).ms.length) := by
  refine fun_any none (callS tabW cF) (callS_ok tabW_ok cF_ok) chk26 (show 1 ≤ 122 by decide) (Nat.zero_le _) ?_
  unfold sf26
  have fl := flat_bytes t
  rcases hx : intsS t with ⟨l, u, e⟩
  have hu : u ≤ t.length := (ints_facts hx).1
  have g1 : ∀ e' : Int, gDone [.ptr 0 0, .int .i64 (u : Int), .int .i64 e'] _ = _ := fun e' => gDone_eq (z := u) (e0 := 0) (e := e') ht hu
  by_cases he : e = 0
  · subst he
    have g2 := g1 0
    simp only [if_true] at g2
    by_cases hl3 : l.length = 3
    · obtain ⟨a, b, c, rfl⟩ : ∃ a b c, l = [a, b, c] := by
        match l, hl3 with
        | [a, b, c], _ => exact ⟨a, b, c, rfl⟩
      have h0 : 0 < ([a, b, c] : List Int).length := by simp
      have i3 : ints [a, b, c] = [.int .i64 a, .int .i64 b, .int .i64 c] := rfl
      have hd0 : decodeS t = if c < 1 ∨ c > 16 then ⟨0, 0, [], 6⟩ else
          if (RS.upto ⟨t.drop u, 0, List.replicate c.toNat zM⟩ c.toNat).e ≠ 0 then ⟨0, 0, [], (RS.upto ⟨t.drop u, 0, List.replicate c.toNat zM⟩ c.toNat).e⟩ else
          if (RS.upto ⟨t.drop u, 0, List.replicate c.toNat zM⟩ c.toNat).rest.length > 0 ∨ validB a b (RS.upto ⟨t.drop u, 0, List.replicate c.toNat zM⟩ c.toNat).ms = false then ⟨0, 0, [], 6⟩ else
          ⟨a, b, (RS.upto ⟨t.drop u, 0, List.replicate c.toNat zM⟩ c.toNat).ms, 0⟩ := by unfold decodeS; rw [hx]; simp
      by_cases c1 : c < 1
      · have hd : decodeS t = ⟨0, 0, [], 6⟩ := by rw [hd0, if_pos (Or.inl c1)]
        simp (config := { maxSteps := 1000000 }) only [tabW, gGetInts, unB_bytes, ht, fl, hx, rI, ↓g2, rdB, hd, i3, c1, SV.flatL, SV.flat, Bool.and_true, Bool.and_self, and_self, undef, Int.reduceBNe, lookF, setv, reduceCtorEq, Nat.reduceEqDiff, Nat.reduceAdd, Nat.reduceSub, Nat.reduceLeDiff, Nat.reduceLT, Int.reduceToNat, Int.reduceLT, Int.reduceLE, true_imp_iff, eq_self, decide_true, Int.cast_ofNat_Int,  true_and, and_true, List.getElem?_cons_zero, List.getElem?_cons_succ, List.length_cons, List.length_nil, List.append_nil, List.nil_append, List.cons_append, List.take_succ_cons, List.take_zero, List.drop_succ_cons, List.drop_zero, List.take_nil, List.drop_nil, List.map_cons, List.map_nil, Nat.zero_add, Nat.add_zero, frOf, den_nil, den_o0, ↓gd_tt, ↓gd_ff, ↓gd_tf, ↓gd_ft, den_o1, kont_app, den_g, setv, Bool.not_true, Bool.not_false, den_reg, Bool.not_true, Bool.not_false, Bool.or_false, den_seq, den_cond, den_block, den_ret, den_rb, den_rc, finE_r, ↓reduceIte, ↓e_box, ↓e_build, ↓e_load, ↓e_store, ↓e_idxS, ↓e_ext, ↓e_mv, ↓e_pick, ↓e_new, ↓e_nilc, ↓e_fld, ↓e_bin, ↓e_un, ↓e_s2b, ↓e_call, ↓e_len, ↓u_binV, ↓binI, ↓fillE, ↓evRes, Opd.ev, Sx.get, put, putO, del, dels, rd, rm, upd, splice, SV.cells?, SV.one, retOf, ↓u_callS, canLW, canV, canC, belowL, apH, apH1, eta, SV.ren, SV.renL, newOwn, targets, rms, Kind.isOwn, List.getElem?_nil, Option.getD_none, Option.getD_some, Nat.le_refl, take_bytes, nlS_0, nlS_1, nlM_0, nlM_1, nlN_0, nlN_1, map_byte, len_bytes, Nat.mul_one, Int.cast_ofNat_Int]
        exact ⟨by decide, [], by simp [EntM, compat, apartM, keysBelow, idHs, List.length_nil, List.take_nil, and_self]⟩
      by_cases c2 : c > 16
      · have hd : decodeS t = ⟨0, 0, [], 6⟩ := by rw [hd0, if_pos (Or.inr c2)]
        simp (config := { maxSteps := 1000000 }) only [tabW, gGetInts, unB_bytes, ht, fl, hx, rI, ↓g2, rdB, hd, i3, c1, c2, SV.flatL, SV.flat, Bool.and_true, Bool.and_self, and_self, Int.reduceBNe, lookF, setv, reduceCtorEq, Nat.reduceEqDiff, Nat.reduceAdd, Nat.reduceSub, Nat.reduceLeDiff, Nat.reduceLT, Int.reduceToNat, Int.reduceLT, Int.reduceLE, true_imp_iff, eq_self, decide_true, decide_false, Int.cast_ofNat_Int,  true_and, and_true, List.getElem?_cons_zero, List.getElem?_cons_succ, List.length_cons, List.length_nil, List.append_nil, List.nil_append, List.cons_append, List.take_succ_cons, List.take_zero, List.drop_succ_cons, List.drop_zero, List.take_nil, List.drop_nil, List.map_cons, List.map_nil, Nat.zero_add, Nat.add_zero, frOf, den_nil, den_o0, ↓gd_tt, ↓gd_ff, ↓gd_ft, den_o1, kont_app, den_g, setv, Bool.not_true, den_reg, Bool.not_true, Bool.or_false, den_seq, den_cond, den_block, den_ret, den_rb, den_rc, finE_r, ↓reduceIte, ↓e_box, ↓e_build, ↓e_load, ↓e_store, ↓e_idxS, ↓e_ext, ↓e_mv, ↓e_pick, ↓e_new, ↓e_nilc, ↓e_fld, ↓e_bin, ↓e_un, ↓e_s2b, ↓e_call, ↓e_len, ↓u_binV, ↓binI, ↓fillE, ↓evRes, Opd.ev, Sx.get, put, putO, del, dels, rd, rm, upd, splice, SV.cells?, SV.one, retOf, ↓u_callS, canLW, canV, canC, belowL, apH, apH1, eta, SV.ren, SV.renL, newOwn, targets, rms, Kind.isOwn, List.getElem?_nil, Option.getD_none, Option.getD_some, Nat.le_refl, take_bytes, nlS_0, nlS_1, nlM_0, nlM_1, nlN_0, nlN_1, map_byte, len_bytes, Nat.mul_one, Int.cast_ofNat_Int]
        exact ⟨by decide, [], by simp [EntM, compat, apartM, keysBelow, idHs, List.length_nil, List.take_nil, and_self]⟩
      rw [if_neg (by omega)] at hd0
      obtain ⟨n, rfl⟩ : ∃ n : Nat, c = (n : Int) := ⟨c.toNat, by omega⟩
      rw [Int.toNat_natCast] at hd0
      have z1 : (0 : Int) ≤ (n : Int) := by omega
      have z2 : ((n : Nat) : Int) * ((40 : Nat) : Int) ≤ 2 ^ 40 := by omega
      have z3 : (n : Int) ≤ 2 ^ 40 := by omega
      simp (config := { maxSteps := 1000000 }) only [tabW, gGetInts, unB_bytes, ht, fl, hx, rI, ↓g2, rdB, i3, c1, c2, z1, z3, Int.le_refl, SV.flatL, SV.flat, Bool.and_true, Bool.and_self, and_self, Int.reduceBNe, lookF, setv, reduceCtorEq, Nat.reduceEqDiff, Nat.reduceAdd, Nat.reduceSub, Nat.reduceLeDiff, Nat.reduceLT, Int.reduceToNat, Int.reduceLT, Int.reduceLE, true_imp_iff, eq_self, decide_false, Int.cast_ofNat_Int,  true_and, and_true, List.getElem?_cons_zero, List.getElem?_cons_succ, List.length_cons, List.length_nil, List.append_nil, List.nil_append, List.cons_append, List.take_succ_cons, List.take_zero, List.drop_succ_cons, List.drop_zero, List.drop_nil, List.reverse_cons, List.reverse_nil, List.map_cons, List.map_nil, Nat.zero_add, Nat.add_zero, frOf, den_o0, ↓gd_ff, ↓gd_ft, den_o1, kont_app, den_g, setv, Bool.not_true, den_skip, den_reg, den_regD, den_A, Bool.not_true, Bool.or_false, den_seq, den_cond, den_block, den_b, ↓reduceIte, ↓e_box, ↓e_build, ↓e_load, ↓e_store, ↓e_idxS, ↓e_ext, ↓e_mv, ↓e_pick, ↓e_new, ↓e_nilc, ↓e_fld, ↓e_bin, ↓e_un, ↓e_s2b, ↓e_mksl, ↓e_call, ↓e_len, ↓u_onInt, ↓u_binV, ↓binI, ↓fillE, evA, Opd.ev, Sx.get, put, putO, del, dels, frD, memD, pickD, kills, views, newer, rd, rm, upd, splice, SV.cells?, SV.one, ↓u_callS, canLW, canV, canC, belowL, apH, apH1, eta, SV.ren, SV.renL, newOwn, targets, rms, Kind.isOwn, List.getElem?_nil, Option.getD_none, Option.getD_some, Nat.le_refl, take_bytes, nlS_1, nlM_1, nlN_1, map_byte, len_bytes, Int.toNat_natCast, Nat.mul_one, Int.cast_ofNat_Int]
      refine ⟨by decide, by omega, ?_⟩
      have hS0 : SInv t n ⟨t.drop u, 0, List.replicate n zM⟩ := by
        refine ⟨by simp, fun m hm => by rw [List.eq_of_mem_replicate hm]; rfl, ?_, by simp⟩
        simp only [List.length_drop]
        congr 1; omega
      have hSI := fun k => hS0.upto k
      have hdu : t.length - (t.drop u).length = u := by simp; omega
      have hdu2 : (t.drop u).length = t.length - u := by simp
      have hss : t.length - (t.length - u) = u := by omega
      have hrp : rep n [.str [], .int .u8 0, .int .u8 0, .int .u8 0, .int .u8 0, .int .u8 0, .int .u8 0, .int .u8 0, .int .u8 0, .int .u8 0, .int .u8 0, .int .u8 0, .int .u8 0, .int .u8 0, .int .u8 0, .int .u8 0, .int .u8 0, .int .i64 0] = mcs (List.replicate n zM) := rep_mcs n
      generalize hs0 : (⟨t.drop u, 0, List.replicate n zM⟩ : RS) = s0 at *
      rw [den_loop]
      refine den_inv (callS_ok tabW_ok cF_ok) (σ := Nat) (fun i => [(67, .int .i64 (i : Int)), (66, .int .i64 (n : Int)), (8, .ptr 5 0), (4, .ptr 2 0), (2, .ptr 0 0)])
        (fun i => MD t a b n (s0.upto i)) (fun _ => 6) (fun i => i ≤ n) (fun i => n - i) 0 ?_ (Nat.zero_le _) ?_
      · refine ⟨[(0, 0), (1, 0), (2, 0), (3, 0), (4, 0), (5, 0)], ?_, by simp [frEnt, geto, eta, SV.ren, Option.getD_some, List.length_cons, List.length_nil, Nat.zero_add, Nat.add_zero, Nat.reduceAdd, Nat.reduceEqDiff, Nat.reduceLT, Nat.reduceLeDiff, ↓reduceIte, and_self, Nat.succ_ne_self]⟩
        rw [← hs0]
        simp only [MD, noC, RS.upto, hdu2, hss, ren_mcs, hrp, EntM, compat, apartM, keysBelow, eta, idHs, rd, SV.ren, SV.renL, Option.getD_some, List.getElem?_cons_zero, List.getElem?_cons_succ, List.length_cons, List.length_nil, Nat.zero_add, Nat.add_zero, Nat.reduceAdd, Nat.reduceSub, Nat.reduceEqDiff, Nat.reduceLT, Nat.reduceLeDiff, ↓reduceIte, Kind.isOwn, List.take_zero, and_self, true_and, exists_eq_left', Option.some.injEq, ne_eq, not_false_eq_true, implies_true, List.not_mem_nil, false_imp_iff, Bool.true_or, forall_const, reduceCtorEq, List.mem_cons, or_false, forall_eq_or_imp, forall_eq, Nat.succ_ne_self, ren_bytes]
      intro i hi
      have hI := hSI i
      generalize hsi : s0.upto i = s at *
      by_cases hin : i < n
      · have c3 : (i : Int) < (n : Int) := by omega
        have wi : IntKind.i64.wrap ((i : Int) + 1) = ((i + 1 : Nat) : Int) := by rw [wrap64_eq (by omega) (by omega)]; omega
        simp (config := { maxSteps := 1000000 }) only [MD, c3, Nat.reduceEqDiff, Nat.reduceAdd, Nat.reduceLeDiff, eq_self, decide_true, Int.cast_ofNat_Int,  true_and, List.length_cons, List.length_nil, List.append_nil, List.nil_append, List.cons_append, List.take_succ_cons, List.take_zero, List.drop_succ_cons, List.drop_zero, List.drop_nil, List.map_cons, List.map_nil, Nat.zero_add, den_o0, ↓gd_tt, den_o1, kont_app, den_skip, den_reg, den_seq, den_cond, den_block, ↓reduceIte, ↓e_bslice, ↓e_mv, ↓e_bin, ↓e_mkfn, ↓e_len, ↓u_binV, ↓binI, ↓fillE, Opd.ev, Sx.get, put, putO, del, dels, splice, SV.cells?, SV.one, Nat.le_refl, Int.cast_ofNat_Int]
        rw [den_loop]
        refine den_inv (callS_ok tabW_ok cF_ok) (σ := Nat) (fun j => [(78, .int .i64 (j : Int)), (77, .int .i64 3), (76, .slc 6 0 1 3 none), (9, .int .i64 (i : Int)), (67, .int .i64 (i : Int)), (66, .int .i64 (n : Int)), (8, .ptr 5 0), (4, .ptr 2 0), (2, .ptr 0 0)])
          (fun j => (6, ⟨.own 72, fns⟩) :: MD t a b n (s.part i j)) (fun _ => 7) (fun j => j ≤ 3) (fun j => 3 - j) 0 ?_ (Nat.zero_le _) ?_
        · exact ⟨[(0, 0), (1, 0), (2, 0), (3, 0), (4, 0), (5, 0), (6, 0)], by simp only [MD, fns, noC, RS.part, ren_mcs, EntM, compat, apartM, keysBelow, eta, idHs, rd, SV.ren, SV.renL, Option.getD_some, List.getElem?_cons_zero, List.getElem?_cons_succ, List.length_cons, List.length_nil, Nat.zero_add, Nat.add_zero, Nat.reduceAdd, Nat.reduceSub, Nat.reduceEqDiff, Nat.reduceLT, Nat.reduceLeDiff, ↓reduceIte, Kind.isOwn, List.take_zero, and_self, true_and, exists_eq_left', Option.some.injEq, ne_eq, not_false_eq_true, implies_true, List.not_mem_nil, false_imp_iff, Bool.true_or, forall_const, reduceCtorEq, List.mem_cons, or_false, forall_eq_or_imp, forall_eq, Nat.succ_ne_self, ren_bytes], by simp only [frEnt, geto, eta, SV.ren, Option.getD_some, List.getElem?_cons_zero, List.getElem?_cons_succ, List.length_cons, List.length_nil, Nat.zero_add, Nat.add_zero, Nat.reduceAdd, Nat.reduceSub, Nat.reduceEqDiff, ↓reduceIte, and_self, and_true, Option.some.injEq, Nat.succ_ne_self]; rfl⟩
        intro j hj
        match j, hj with
        | 0, _ =>
          have hIj : SInv t n (s.part i 0) := hI.part 0
          obtain ⟨p1, p2, p3, p4⟩ := hIj
          have hnx : s.part i 1 = (s.part i 0).name i ((s.part i 0).ms.getD i zM) := rfl
          generalize hsp : s.part i 0 = sp at *
          obtain ⟨r, e, ms⟩ := sp
          simp only at p1 p2 p3 p4
          have hmi : ms[i]? = some (ms.getD i zM) := by
            rw [List.getD_eq_getElem?_getD, List.getElem?_eq_getElem (by omega)]; rfl
          have g3 := gStep_eq (st := RS.name) (b := r) (e := e) (by omega) p2 hmi
          have hrl := (rest_le (s := ⟨r, e, ms⟩) (i := i) (m := ms.getD i zM)).1
          simp only at hrl
          rw [← hnx] at g3 hrl
          generalize hsn : s.part i 1 = sn at *
          obtain ⟨r', e', ms'⟩ := sn
          simp only at hrl
          have dr : List.drop (t.length - r.length) (bys t) = bys r := by rw [drop_bys, ← p3]
          have k2 : t.length - r.length + r.length ≤ t.length := by omega
          have k3 : t.length - r.length + (r.length - r'.length) = t.length - r'.length := by omega
          have k4 : i * 18 < ms.length * 18 := by omega
          have hml := len_mcs p2
          have k5 : i < ms.length := by omega
          have ci : (0 : Int) ≤ (i : Int) := by omega
          have cn : (i : Int) < (n : Int) := by omega
          have flr := flat_bytes r
          have flm := flat_mcs ms
          simp only [RS.mem, rdB] at g3
          simp (config := { maxSteps := 1000000 }) only [MD, fns, dr, k2, k3, k4, ci, cn, hml, flr, flm, ↓g3, ren_mcs, SV.flatL, SV.flat, Bool.and_true, Bool.and_self, and_self, lookF, again_n, reduceCtorEq, Nat.reduceEqDiff, Nat.reduceAdd, Nat.reduceSub, Nat.reduceLT, Int.reduceToNat, Int.reduceLT, Int.reduceLE, Int.reduceAdd, Int.reduceNeg, wrap64, true_imp_iff, eq_self, decide_true, Int.cast_ofNat_Int,  true_and, and_true, List.getElem?_cons_zero, List.getElem?_cons_succ, List.length_cons, List.length_nil, List.append_nil, List.nil_append, List.cons_append, List.map_cons, List.map_nil, Nat.zero_add, Nat.add_zero, den_nil, den_o0, ↓gd_tt, den_o1, kont_app, den_skip, den_reg, Bool.or_false, Bool.or_self, Bool.or_true, den_seq, den_cond, den_block, den_b, ↓reduceIte, ↓e_load, ↓e_idxS, ↓e_mv, ↓e_fld, ↓e_bin, ↓e_callv, ↓u_binV, ↓binI, Opd.ev, Sx.get, put, putO, del, dels, rd, rm, ↓u_callS, canLW, canV, canC, belowL, apH, apH1, eta, SV.ren, SV.renL, newOwn, targets, rms, Kind.isOwn, Option.getD_some, Nat.sub_zero, take_bytes, len_bytes, Int.toNat_natCast, Nat.mul_one, Int.cast_ofNat_Int]
          exact ⟨by decide, 1, ⟨[(0, 0), (1, 0), (2, 0), (3, 0), (4, 0), (5, 0), (6, 0)], by simp only [hsn, ren_mcs, noC, EntM, compat, apartM, keysBelow, eta, idHs, rd, SV.ren, SV.renL, Option.getD_some, List.getElem?_cons_zero, List.getElem?_cons_succ, List.length_cons, List.length_nil, Nat.zero_add, Nat.add_zero, Nat.reduceAdd, Nat.reduceSub, Nat.reduceEqDiff, Nat.reduceLT, Nat.reduceLeDiff, ↓reduceIte, Kind.isOwn, List.take_zero, and_self, true_and, exists_eq_left', Option.some.injEq, ne_eq, not_false_eq_true, implies_true, List.not_mem_nil, false_imp_iff, Bool.true_or, forall_const, reduceCtorEq, List.mem_cons, or_false, forall_eq_or_imp, forall_eq, Nat.succ_ne_self, ren_bytes], by simp only [frEnt, geto, eta, SV.ren, Option.getD_some, List.getElem?_cons_zero, List.getElem?_cons_succ, List.length_cons, List.length_nil, Nat.zero_add, Nat.add_zero, Nat.reduceAdd, Nat.reduceSub, Nat.reduceEqDiff, ↓reduceIte, and_self, and_true, Option.some.injEq, Nat.succ_ne_self]; rfl⟩, by decide, by decide⟩
        | 1, _ =>
          have hIj : SInv t n (s.part i 1) := hI.part 1
          obtain ⟨p1, p2, p3, p4⟩ := hIj
          have hnx : s.part i 2 = (s.part i 1).pub i ((s.part i 1).ms.getD i zM) := rfl
          generalize hsp : s.part i 1 = sp at *
          obtain ⟨r, e, ms⟩ := sp
          simp only at p1 p2 p3 p4
          have hmi : ms[i]? = some (ms.getD i zM) := by
            rw [List.getD_eq_getElem?_getD, List.getElem?_eq_getElem (by omega)]; rfl
          have g3 := gStep_eq (st := RS.pub) (b := r) (e := e) (by omega) p2 hmi
          have hrl := (rest_le (s := ⟨r, e, ms⟩) (i := i) (m := ms.getD i zM)).2.1
          simp only at hrl
          rw [← hnx] at g3 hrl
          generalize hsn : s.part i 2 = sn at *
          obtain ⟨r', e', ms'⟩ := sn
          simp only at hrl
          have dr : List.drop (t.length - r.length) (bys t) = bys r := by rw [drop_bys, ← p3]
          have k2 : t.length - r.length + r.length ≤ t.length := by omega
          have k3 : t.length - r.length + (r.length - r'.length) = t.length - r'.length := by omega
          have k4 : i * 18 < ms.length * 18 := by omega
          have hml := len_mcs p2
          have k5 : i < ms.length := by omega
          have ci : (0 : Int) ≤ (i : Int) := by omega
          have cn : (i : Int) < (n : Int) := by omega
          have flr := flat_bytes r
          have flm := flat_mcs ms
          simp only [RS.mem, rdB] at g3
          simp (config := { maxSteps := 1000000 }) only [MD, fns, dr, k2, k3, k4, ci, cn, hml, flr, flm, ↓g3, ren_mcs, SV.flatL, SV.flat, Bool.and_true, Bool.and_self, and_self, lookF, again_n, reduceCtorEq, Nat.reduceEqDiff, Nat.reduceAdd, Nat.reduceSub, Nat.reduceLT, Int.reduceToNat, Int.reduceLT, Int.reduceLE, Int.reduceAdd, Int.reduceNeg, wrap64, true_imp_iff, eq_self, decide_true, Int.cast_ofNat_Int,  true_and, and_true, List.getElem?_cons_zero, List.getElem?_cons_succ, List.length_cons, List.length_nil, List.append_nil, List.nil_append, List.cons_append, List.map_cons, List.map_nil, Nat.zero_add, Nat.add_zero, den_nil, den_o0, ↓gd_tt, den_o1, kont_app, den_skip, den_reg, Bool.or_false, Bool.or_self, Bool.or_true, den_seq, den_cond, den_block, den_b, ↓reduceIte, ↓e_load, ↓e_idxS, ↓e_mv, ↓e_fld, ↓e_bin, ↓e_callv, ↓u_binV, ↓binI, Opd.ev, Sx.get, put, putO, del, dels, rd, rm, ↓u_callS, canLW, canV, canC, belowL, apH, apH1, eta, SV.ren, SV.renL, newOwn, targets, rms, Kind.isOwn, Option.getD_some, take_bytes, len_bytes, Int.toNat_natCast, Nat.mul_one, Int.cast_ofNat_Int]
          exact ⟨by decide, 2, ⟨[(0, 0), (1, 0), (2, 0), (3, 0), (4, 0), (5, 0), (6, 0)], by simp only [hsn, ren_mcs, noC, EntM, compat, apartM, keysBelow, eta, idHs, rd, SV.ren, SV.renL, Option.getD_some, List.getElem?_cons_zero, List.getElem?_cons_succ, List.length_cons, List.length_nil, Nat.zero_add, Nat.add_zero, Nat.reduceAdd, Nat.reduceSub, Nat.reduceEqDiff, Nat.reduceLT, Nat.reduceLeDiff, ↓reduceIte, Kind.isOwn, List.take_zero, and_self, true_and, exists_eq_left', Option.some.injEq, ne_eq, not_false_eq_true, implies_true, List.not_mem_nil, false_imp_iff, Bool.true_or, forall_const, reduceCtorEq, List.mem_cons, or_false, forall_eq_or_imp, forall_eq, Nat.succ_ne_self, ren_bytes], by simp only [frEnt, geto, eta, SV.ren, Option.getD_some, List.getElem?_cons_zero, List.getElem?_cons_succ, List.length_cons, List.length_nil, Nat.zero_add, Nat.add_zero, Nat.reduceAdd, Nat.reduceSub, Nat.reduceEqDiff, ↓reduceIte, and_self, and_true, Option.some.injEq, Nat.succ_ne_self]; rfl⟩, by decide, by decide⟩
        | 2, _ =>
          have hIj : SInv t n (s.part i 2) := hI.part 2
          obtain ⟨p1, p2, p3, p4⟩ := hIj
          have hnx : s.part i 3 = (s.part i 2).height i ((s.part i 2).ms.getD i zM) := rfl
          generalize hsp : s.part i 2 = sp at *
          obtain ⟨r, e, ms⟩ := sp
          simp only at p1 p2 p3 p4
          have hmi : ms[i]? = some (ms.getD i zM) := by
            rw [List.getD_eq_getElem?_getD, List.getElem?_eq_getElem (by omega)]; rfl
          have g3 := gStep_eq (st := RS.height) (b := r) (e := e) (by omega) p2 hmi
          have hrl := (rest_le (s := ⟨r, e, ms⟩) (i := i) (m := ms.getD i zM)).2.2
          simp only at hrl
          rw [← hnx] at g3 hrl
          generalize hsn : s.part i 3 = sn at *
          obtain ⟨r', e', ms'⟩ := sn
          simp only at hrl
          have dr : List.drop (t.length - r.length) (bys t) = bys r := by rw [drop_bys, ← p3]
          have k2 : t.length - r.length + r.length ≤ t.length := by omega
          have k3 : t.length - r.length + (r.length - r'.length) = t.length - r'.length := by omega
          have k4 : i * 18 < ms.length * 18 := by omega
          have hml := len_mcs p2
          have k5 : i < ms.length := by omega
          have ci : (0 : Int) ≤ (i : Int) := by omega
          have cn : (i : Int) < (n : Int) := by omega
          have flr := flat_bytes r
          have flm := flat_mcs ms
          simp only [RS.mem, rdB] at g3
          simp (config := { maxSteps := 1000000 }) only [MD, fns, dr, k2, k3, k4, ci, cn, hml, flr, flm, ↓g3, ren_mcs, SV.flatL, SV.flat, Bool.and_true, Bool.and_self, and_self, lookF, again_n, reduceCtorEq, Nat.reduceEqDiff, Nat.reduceAdd, Nat.reduceSub, Nat.reduceLT, Int.reduceToNat, Int.reduceLT, Int.reduceLE, Int.reduceAdd, Int.reduceNeg, wrap64, true_imp_iff, eq_self, decide_true, Int.cast_ofNat_Int,  true_and, and_true, List.getElem?_cons_zero, List.getElem?_cons_succ, List.length_cons, List.length_nil, List.append_nil, List.nil_append, List.cons_append, List.map_cons, List.map_nil, Nat.zero_add, Nat.add_zero, den_nil, den_o0, ↓gd_tt, den_o1, kont_app, den_skip, den_reg, Bool.or_false, Bool.or_self, Bool.or_true, den_seq, den_cond, den_block, den_b, ↓reduceIte, ↓e_load, ↓e_idxS, ↓e_mv, ↓e_fld, ↓e_bin, ↓e_callv, ↓u_binV, ↓binI, Opd.ev, Sx.get, put, putO, del, dels, rd, rm, ↓u_callS, canLW, canV, canC, belowL, apH, apH1, eta, SV.ren, SV.renL, newOwn, targets, rms, Kind.isOwn, Option.getD_some, take_bytes, len_bytes, Int.toNat_natCast, Nat.mul_one, Int.cast_ofNat_Int]
          exact ⟨by decide, 3, ⟨[(0, 0), (1, 0), (2, 0), (3, 0), (4, 0), (5, 0), (6, 0)], by simp only [hsn, ren_mcs, noC, EntM, compat, apartM, keysBelow, eta, idHs, rd, SV.ren, SV.renL, Option.getD_some, List.getElem?_cons_zero, List.getElem?_cons_succ, List.length_cons, List.length_nil, Nat.zero_add, Nat.add_zero, Nat.reduceAdd, Nat.reduceSub, Nat.reduceEqDiff, Nat.reduceLT, Nat.reduceLeDiff, ↓reduceIte, Kind.isOwn, List.take_zero, and_self, true_and, exists_eq_left', Option.some.injEq, ne_eq, not_false_eq_true, implies_true, List.not_mem_nil, false_imp_iff, Bool.true_or, forall_const, reduceCtorEq, List.mem_cons, or_false, forall_eq_or_imp, forall_eq, Nat.succ_ne_self, ren_bytes], by simp only [frEnt, geto, eta, SV.ren, Option.getD_some, List.getElem?_cons_zero, List.getElem?_cons_succ, List.length_cons, List.length_nil, Nat.zero_add, Nat.add_zero, Nat.reduceAdd, Nat.reduceSub, Nat.reduceEqDiff, ↓reduceIte, and_self, and_true, Option.some.injEq, Nat.succ_ne_self]; rfl⟩, by decide, by decide⟩
        | 3, _ =>
          rw [RS.part3]
          simp (config := { maxSteps := 1000000 }) only [MD, fns, wi, again_n, again_x, Nat.reduceEqDiff, Int.reduceLT, eq_self, decide_false, Int.cast_ofNat_Int,  true_and, den_nil, den_o0, ↓gd_ft, den_o1, kont_app, den_reg, den_seq, den_cond, den_exit, den_b, den_xb, den_xc, ↓reduceIte, ↓e_mv, ↓e_bin, ↓u_binV, ↓binI, Opd.ev, Sx.get, put, putO, del, dels, Int.cast_ofNat_Int]
          have hn1 : s0.upto (i + 1) = s.one i := by rw [← hsi]; rfl
          exact ⟨i + 1, ⟨[(0, 0), (1, 0), (2, 0), (3, 0), (4, 0), (5, 0)], by simp only [hn1, ren_mcs, noC, EntM, compat, apartM, keysBelow, eta, idHs, rd, SV.ren, SV.renL, Option.getD_some, List.getElem?_cons_zero, List.getElem?_cons_succ, List.length_cons, List.length_nil, Nat.zero_add, Nat.add_zero, Nat.reduceAdd, Nat.reduceSub, Nat.reduceEqDiff, Nat.reduceLT, Nat.reduceLeDiff, ↓reduceIte, Kind.isOwn, List.take_zero, and_self, true_and, exists_eq_left', Option.some.injEq, ne_eq, not_false_eq_true, implies_true, List.not_mem_nil, false_imp_iff, Bool.true_or, forall_const, reduceCtorEq, List.mem_cons, or_false, forall_eq_or_imp, forall_eq, Nat.succ_ne_self, ren_bytes], by simp only [frEnt, geto, eta, SV.ren, Option.getD_some, List.getElem?_cons_zero, List.getElem?_cons_succ, List.length_cons, List.length_nil, Nat.zero_add, Nat.add_zero, Nat.reduceAdd, Nat.reduceSub, Nat.reduceEqDiff, ↓reduceIte, and_self, Nat.succ_ne_self]⟩, by omega, by omega⟩
        | j + 4, hj => omega
      · obtain rfl : i = n := by omega
        have c3 : ¬ (i : Int) < (i : Int) := by omega
        rw [hsi] at hd0
        obtain ⟨p1, p2, p3, p4⟩ := hI
        obtain ⟨r, e, ms⟩ := s
        simp only at hd0 p1 p2 p3 p4
        have hml := len_mcs p2
        have flm := flat_mcs ms
        by_cases he : e = 0
        · subst he
          rw [if_neg (by simp)] at hd0
          by_cases hr : r.length > 0
          · have hr' : (r.length : Int) > 0 := by omega
            have hd : decodeS t = ⟨0, 0, [], 6⟩ := by rw [hd0, if_pos (Or.inl hr)]
            simp (config := { maxSteps := 1000000 }) only [MD, noC, c3, hr', hd, beq_self_eq_true, List.cons.injEq, SV.tup.injEq, SV.agg.injEq, undef, Int.reduceBNe, Nat.reduceBEq, setv, again_x, reduceCtorEq, Nat.reduceEqDiff, Nat.reduceAdd, eq_self, decide_true, decide_false,  true_and, and_true, and_false, List.getElem?_cons_zero, List.getElem?_cons_succ, List.length_cons, List.length_nil, List.append_nil, List.nil_append, List.cons_append, List.take_succ_cons, List.take_zero, List.drop_succ_cons, List.drop_zero, List.take_nil, List.drop_nil, List.reverse_cons, List.reverse_nil, List.map_cons, List.map_nil, Nat.zero_add, Nat.add_zero, den_nil, den_o0, ↓gd_tt, ↓gd_tf, ↓gd_ft, den_o1, kont_app, den_g, setv, Bool.not_false, den_reg, den_regW, den_W, evW, baseD, stBlk, touch, clear, untouched, updsW, List.contains_cons, List.contains_nil, Bool.not_false, Bool.or_false, Bool.or_self, den_seq, den_cond, den_exit, den_ret, den_xb, den_xc, den_rc, finE_r, ↓reduceIte, ↓e_build, ↓e_load, ↓e_store, ↓e_mv, ↓e_pick, ↓e_nilc, ↓e_fld, ↓e_bin, ↓e_len, ↓u_binV, ↓binI, ↓fillE, ↓evRes, Opd.ev, Sx.get, put, putO, del, dels, frD, memD, pickD, kills, views, newer, rd, upd, splice, SV.cells?, SV.one, retOf, SV.ren, SV.renL, Nat.le_refl, nlS_0, nlM_0, nlN_0]
            exact ⟨[], by simp [EntM, compat, apartM, keysBelow, idHs, List.length_nil, List.take_nil, and_self]⟩
          · have hr' : ¬ (r.length : Int) > 0 := by omega
            have um := unM_mcs (f := i * 18) p2 (by omega)
            have tk : List.take (i * 18) (mcs ms) = mcs ms := List.take_of_length_le (by omega)
            have hle : i * 18 ≤ ms.length * 18 := by omega
            have hbl : Nat.ble i 9223372036854775807 = true := Nat.ble_eq_true_of_le (by omega)
            have hip : i = ms.length := p1.symm
            cases hv : validB a b ms with
            | false =>
              have hd : decodeS t = ⟨0, 0, [], 6⟩ := by rw [hd0, if_pos (Or.inr hv)]
              simp (config := { maxSteps := 1000000 }) only [gValid, MD, noC, c3, hr', hd, um, tk, hml, hbl, flm, ← hip, hv, SV.flatL, SV.flat, Bool.and_true, Bool.true_and, beq_self_eq_true, List.cons.injEq, SV.tup.injEq, SV.agg.injEq, and_self, Int.reduceBNe, Nat.reduceBEq, lookF, setv, again_x, reduceCtorEq, Nat.reduceEqDiff, Nat.reduceAdd, Nat.reduceSub, Nat.reduceLT, eq_self, decide_false,  true_and, and_true, and_false, List.getElem?_cons_zero, List.getElem?_cons_succ, List.length_cons, List.length_nil, List.append_nil, List.nil_append, List.cons_append, List.take_succ_cons, List.take_zero, List.drop_succ_cons, List.drop_zero, List.take_nil, List.drop_nil, List.reverse_cons, List.reverse_nil, List.map_cons, List.map_nil, Nat.zero_add, Nat.add_zero, den_nil, den_o0, ↓gd_tt, ↓gd_ff, ↓gd_ft, den_o1, kont_app, den_g, setv, Bool.not_false, den_reg, den_regW, den_W, evW, baseD, stBlk, touch, clear, untouched, updsW, List.contains_cons, List.contains_nil, Bool.not_false, Bool.or_false, Bool.or_self, den_seq, den_cond, den_exit, den_ret, den_xb, den_xc, den_rc, finE_r, ↓reduceIte, ↓e_build, ↓e_load, ↓e_store, ↓e_mv, ↓e_pick, ↓e_nilc, ↓e_fld, ↓e_bin, ↓e_un, ↓e_call, ↓e_len, ↓u_binV, ↓binI, ↓fillE, ↓evRes, Opd.ev, Sx.get, put, putO, del, dels, frD, memD, pickD, kills, views, newer, rd, upd, splice, SV.cells?, SV.one, retOf, ↓u_callS, canLW, canV, canC, belowL, apH, apH1, SV.ren, SV.renL, newOwn, targets, rms, Kind.isOwn, Nat.le_refl, nlS_0, nlM_0, nlN_0]
              exact ⟨[], by simp [EntM, compat, apartM, keysBelow, idHs, List.length_nil, List.take_nil, and_self]⟩
            | true =>
              have hd : decodeS t = ⟨a, b, ms, 0⟩ := by
                rw [hd0, if_neg]
                rintro (h | h)
                · exact hr h
                · rw [hv] at h; cases h
              have hpos : 0 < i := by have := valid_pos' hv; omega
              simp (config := { maxSteps := 1000000 }) only [gValid, MD, noC, c3, hr', hd, um, tk, hml, hbl, flm, ← hip, hv, nlS_p hpos, nlM_p hpos, nlN_p hpos, SV.flatL, SV.flat, Bool.and_true, Bool.true_and, beq_self_eq_true, List.cons.injEq, SV.tup.injEq, SV.agg.injEq, and_self, Int.reduceBNe, lookF, setv, again_x, reduceCtorEq, Nat.reduceEqDiff, Nat.reduceAdd, Nat.reduceSub, Nat.reduceLT, eq_self, decide_false,  true_and, and_true, List.getElem?_cons_zero, List.getElem?_cons_succ, List.length_cons, List.length_nil, List.append_nil, List.nil_append, List.take_succ_cons, List.take_zero, List.drop_succ_cons, List.drop_zero, List.take_nil, List.drop_nil, List.map_cons, List.map_nil, Nat.zero_add, Nat.add_zero, den_nil, den_o0, ↓gd_tt, ↓gd_ff, ↓gd_ft, den_o1, kont_app, den_g, setv, Bool.not_true, den_skip, den_reg, Bool.not_true, den_seq, den_cond, den_exit, den_ret, den_xb, den_xc, finE_r, ↓reduceIte, ↓e_load, ↓e_store, ↓e_mv, ↓e_pick, ↓e_nilc, ↓e_fld, ↓e_bin, ↓e_un, ↓e_call, ↓e_len, ↓u_binV, ↓binI, ↓evRes, Opd.ev, Sx.get, put, putO, del, dels, rd, upd, splice, SV.cells?, retOf, ↓u_callS, canLW, canV, canC, belowL, apH, apH1, eta, SV.ren, SV.renL, newOwn, targets, rms, Kind.isOwn, Nat.le_refl]
              exact ⟨[(4, 0)], by simp [ren_mcs, EntM, compat, apartM, keysBelow, eta, idHs, rd, Option.getD_some, List.length_cons, List.length_nil, Nat.zero_add, Nat.add_zero, ↓reduceIte, Kind.isOwn, List.take_zero, and_self, true_and, exists_eq_left', Option.some.injEq, ne_eq, implies_true, List.not_mem_nil, Bool.true_or, forall_const, Nat.succ_ne_self], by simp [Option.getD_some, List.length_cons, List.length_nil, Nat.zero_add, Nat.add_zero]⟩
        · have he' : (e == 0) = false := by simpa using he
          have he2 : (e != 0) = true := by simpa using he
          rw [if_pos he] at hd0
          simp (config := { maxSteps := 1000000 }) only [MD, noC, c3, he', he2, hd0, beq_self_eq_true, List.cons.injEq, SV.tup.injEq, SV.agg.injEq, undef, Nat.reduceBEq, setv, again_x, reduceCtorEq, Nat.reduceEqDiff, Nat.reduceAdd, eq_self, decide_false,  true_and, and_true, and_false, List.getElem?_cons_zero, List.getElem?_cons_succ, List.length_cons, List.length_nil, List.append_nil, List.nil_append, List.cons_append, List.take_succ_cons, List.take_zero, List.drop_succ_cons, List.drop_zero, List.take_nil, List.drop_nil, List.reverse_cons, List.reverse_nil, List.map_cons, List.map_nil, Nat.zero_add, den_nil, den_o0, ↓gd_tt, ↓gd_ft, den_o1, kont_app, den_g, setv, Bool.not_true, den_skip, den_reg, den_regW, den_W, evW, baseD, stBlk, touch, clear, untouched, updsW, List.contains_cons, List.contains_nil, Bool.not_true, Bool.or_false, Bool.or_self, den_seq, den_cond, den_exit, den_ret, den_xb, den_xc, den_rc, finE_r, ↓reduceIte, ↓e_build, ↓e_load, ↓e_mv, ↓e_pick, ↓e_nilc, ↓e_fld, ↓e_bin, ↓u_binV, ↓binI, ↓fillE, ↓evRes, Opd.ev, Sx.get, put, putO, del, dels, frD, memD, pickD, kills, views, newer, rd, upd, splice, SV.cells?, SV.one, retOf, SV.ren, SV.renL, Nat.le_refl, nlS_0, nlM_0, nlN_0]
          exact ⟨[], by simp [EntM, compat, apartM, keysBelow, idHs, List.length_nil, List.take_nil, and_self]⟩
    · have hb : ((l.length : Int) != 3) = true := by rw [bne_iff_ne]; omega
      have hd : decodeS t = ⟨0, 0, [], 6⟩ := by
        unfold decodeS; rw [hx]
        simp only [ne_eq, not_true_eq_false, if_false]
        split
        · rename_i a b c; exact absurd rfl hl3
        · rfl
      rcases Nat.eq_zero_or_pos l.length with h0 | h0
      · simp (config := { maxSteps := 1000000 }) only [tabW, gGetInts, unB_bytes, ht, fl, hx, rI, nlS_z h0, nlM_z h0, nlN_z h0, ↓g2, rdB, hd, SV.flatL, SV.flat, Bool.and_true, Bool.and_self, and_self, undef, Int.reduceBNe, lookF, setv, reduceCtorEq, Nat.reduceEqDiff, Nat.reduceAdd, Nat.reduceSub, Nat.reduceLeDiff, Nat.reduceLT, true_imp_iff, eq_self,  true_and, and_true, List.getElem?_cons_zero, List.getElem?_cons_succ, List.length_cons, List.length_nil, List.append_nil, List.nil_append, List.cons_append, List.take_succ_cons, List.take_zero, List.drop_succ_cons, List.drop_zero, List.take_nil, List.drop_nil, List.map_cons, List.map_nil, Nat.zero_add, Nat.add_zero, frOf, den_nil, den_o0, ↓gd_tt, ↓gd_tf, ↓gd_ft, den_o1, kont_app, den_g, setv, Bool.not_true, Bool.not_false, den_reg, Bool.not_true, Bool.not_false, Bool.or_false, den_seq, den_cond, den_block, den_ret, den_rb, den_rc, finE_r, ↓reduceIte, ↓e_box, ↓e_build, ↓e_load, ↓e_store, ↓e_ext, ↓e_mv, ↓e_pick, ↓e_new, ↓e_nilc, ↓e_fld, ↓e_bin, ↓e_un, ↓e_s2b, ↓e_call, ↓e_len, ↓u_binV, ↓binI, ↓fillE, ↓evRes, Opd.ev, Sx.get, put, putO, del, dels, rd, rm, upd, splice, SV.cells?, SV.one, retOf, ↓u_callS, canLW, canV, canC, belowL, apH, apH1, eta, SV.ren, SV.renL, newOwn, targets, rms, Kind.isOwn, Option.getD_some, Nat.le_refl, take_bytes, nlS_0, nlM_0, nlN_0, map_byte, len_bytes, Nat.mul_one]
        exact ⟨by decide, [], by simp [EntM, compat, apartM, keysBelow, idHs, List.length_nil, List.take_nil, and_self]⟩
      · simp (config := { maxSteps := 1000000 }) only [tabW, gGetInts, unB_bytes, ht, fl, hx, rI, nlS_p h0, nlM_p h0, nlN_p h0, ↓g2, rdB, hd, hb, SV.flatL, SV.flat, Bool.and_true, Bool.and_self, and_self, undef, lookF, setv, reduceCtorEq, Nat.reduceEqDiff, Nat.reduceAdd, Nat.reduceSub, Nat.reduceLeDiff, Nat.reduceLT, true_imp_iff, eq_self,  true_and, and_true, List.getElem?_cons_zero, List.getElem?_cons_succ, List.length_cons, List.length_nil, List.append_nil, List.nil_append, List.cons_append, List.take_succ_cons, List.take_zero, List.drop_succ_cons, List.drop_zero, List.take_nil, List.drop_nil, List.map_cons, List.map_nil, Nat.zero_add, Nat.add_zero, frOf, den_nil, den_o0, ↓gd_tt, ↓gd_tf, ↓gd_ft, den_o1, kont_app, den_g, setv, Bool.not_true, Bool.not_false, den_reg, Bool.not_true, Bool.not_false, Bool.or_false, den_seq, den_cond, den_block, den_ret, den_rb, den_rc, finE_r, ↓reduceIte, ↓e_box, ↓e_build, ↓e_load, ↓e_store, ↓e_ext, ↓e_mv, ↓e_pick, ↓e_new, ↓e_nilc, ↓e_fld, ↓e_bin, ↓e_un, ↓e_s2b, ↓e_call, ↓e_len, ↓u_binV, ↓binI, ↓fillE, ↓evRes, Opd.ev, Sx.get, put, putO, del, dels, rd, rm, upd, splice, SV.cells?, SV.one, retOf, ↓u_callS, canLW, canV, canC, belowL, apH, apH1, eta, SV.ren, SV.renL, newOwn, targets, rms, Kind.isOwn, ren_ints, List.getElem?_nil, Option.getD_none, Option.getD_some, Nat.le_refl, take_bytes, nlS_0, nlM_0, nlN_0, map_byte, len_bytes, Nat.mul_one]
        exact ⟨by decide, [], by simp [EntM, compat, apartM, keysBelow, idHs, List.length_nil, List.take_nil, and_self]⟩
  · have hd : decodeS t = ⟨0, 0, [], e⟩ := by unfold decodeS; rw [hx]; simp [he]
    have g2 := g1 e
    simp only [if_true, he, if_false] at g2
    have hl0 : l.length = 0 := by rw [((ints_facts hx).2 he).1]; rfl
    simp (config := { maxSteps := 1000000 }) only [tabW, gGetInts, unB_bytes, ht, fl, hx, rI, nlS_z hl0, nlM_z hl0, nlN_z hl0, ↓g2, rdB, hd, SV.flatL, SV.flat, Bool.and_true, Bool.and_self, beq_self_eq_true, List.cons.injEq, SV.tup.injEq, SV.agg.injEq, and_self, Nat.reduceBEq, lookF, reduceCtorEq, Nat.reduceEqDiff, Nat.reduceAdd, Nat.reduceSub, Nat.reduceLeDiff, Nat.reduceLT, true_imp_iff, eq_self,  true_and, and_true, and_false, List.getElem?_cons_zero, List.getElem?_cons_succ, List.length_cons, List.length_nil, List.append_nil, List.nil_append, List.cons_append, List.take_succ_cons, List.take_zero, List.drop_succ_cons, List.drop_zero, List.take_nil, List.drop_nil, List.reverse_cons, List.reverse_nil, List.map_cons, List.map_nil, Nat.zero_add, Nat.add_zero, frOf, den_nil, den_o0, ↓gd_tt, den_o1, kont_app, Bool.not_false, den_reg, den_regW, den_W, evW, baseD, stBlk, touch, clear, untouched, updsW, List.contains_cons, List.contains_nil, Bool.not_false, Bool.or_false, Bool.or_self, den_seq, den_cond, den_block, den_ret, den_rb, den_rc, finE_r, ↓reduceIte, ↓e_box, ↓e_build, ↓e_load, ↓e_ext, ↓e_mv, ↓e_new, ↓e_nilc, ↓e_fld, ↓e_un, ↓e_s2b, ↓e_call, ↓fillE, ↓evRes, Opd.ev, Sx.get, put, putO, del, dels, frD, memD, pickD, kills, views, newer, rd, rm, upd, splice, SV.cells?, SV.one, retOf, ↓u_callS, canLW, canV, canC, belowL, apH, apH1, eta, SV.ren, SV.renL, newOwn, targets, rms, Kind.isOwn, Option.getD_some, Nat.le_refl, take_bytes, nlS_0, nlM_0, nlN_0, map_byte, len_bytes, Nat.mul_one]
    exact ⟨by decide, [], by simp [EntM, compat, apartM, keysBelow, idHs, List.length_nil, List.take_nil, and_self]⟩
end Go.Proofs.YtkfbkooobfepeaaDoor

/- The sanity of the laws, carried out. -/
namespace Go.Proofs.YtkfbkooobfepeaaDoor
open Go Go.Sx Sf
set_option maxRecDepth 100000
set_option linter.unusedVariables false
def tbL : List (FuncId × SF) := [(9, sf9), (10, sf10), (12, sf12), (14, sf14), (15, sf15), (16, sf16), (18, sf18), (20, sf20), (22, sf22), (24, sf24), (26, sf26), (28, sf28), (29, sf29), (30, sf30), (31, sf31), (32, sf32), (33, sf33), (34, sf34), (39, sf39), (41, sf41), (43, sf43), (44, sf44), (45, sf45), (46, sf46), (47, sf47), (51, sf51), (52, sf52), (53, sf53), (54, sf54), (57, sf57), (58, sf58), (59, sf59), (60, sf60), (61, sf61), (69, sf69), (70, sf70), (75, sf75), (76, sf76), (85, sf85)]
def tb : FuncId → Option SF := lookF tbL
theorem tb_ok : TbOk Tryd.prog tb := by
  intro f sf h
  have hm := lookF_mem h
  simp only [tbL, List.mem_cons, Prod.mk.injEq, List.not_mem_nil, or_false] at hm
  rcases hm with ⟨rfl, rfl⟩ | ⟨rfl, rfl⟩ | ⟨rfl, rfl⟩ | ⟨rfl, rfl⟩ | ⟨rfl, rfl⟩ | ⟨rfl, rfl⟩ | ⟨rfl, rfl⟩ | ⟨rfl, rfl⟩ | ⟨rfl, rfl⟩ | ⟨rfl, rfl⟩ | ⟨rfl, rfl⟩ | ⟨rfl, rfl⟩ | ⟨rfl, rfl⟩ | ⟨rfl, rfl⟩ | ⟨rfl, rfl⟩ | ⟨rfl, rfl⟩ | ⟨rfl, rfl⟩ | ⟨rfl, rfl⟩ | ⟨rfl, rfl⟩ | ⟨rfl, rfl⟩ | ⟨rfl, rfl⟩ | ⟨rfl, rfl⟩ | ⟨rfl, rfl⟩ | ⟨rfl, rfl⟩ | ⟨rfl, rfl⟩ | ⟨rfl, rfl⟩ | ⟨rfl, rfl⟩ | ⟨rfl, rfl⟩ | ⟨rfl, rfl⟩ | ⟨rfl, rfl⟩ | ⟨rfl, rfl⟩ | ⟨rfl, rfl⟩ | ⟨rfl, rfl⟩ | ⟨rfl, rfl⟩ | ⟨rfl, rfl⟩ | ⟨rfl, rfl⟩ | ⟨rfl, rfl⟩ | ⟨rfl, rfl⟩ | ⟨rfl, rfl⟩
  · exact chk9
  · exact chk10
  · exact chk12
  · exact chk14
  · exact chk15
  · exact chk16
  · exact chk18
  · exact chk20
  · exact chk22
  · exact chk24
  · exact chk26
  · exact chk28
  · exact chk29
  · exact chk30
  · exact chk31
  · exact chk32
  · exact chk33
  · exact chk34
  · exact chk39
  · exact chk41
  · exact chk43
  · exact chk44
  · exact chk45
  · exact chk46
  · exact chk47
  · exact chk51
  · exact chk52
  · exact chk53
  · exact chk54
  · exact chk57
  · exact chk58
  · exact chk59
  · exact chk60
  · exact chk61
  · exact chk69
  · exact chk70
  · exact chk75
  · exact chk76
  · exact chk85
end Go.Proofs.YtkfbkooobfepeaaDoor

/- SHA-256 of package hash: the rotations. -/
namespace Go.Proofs.YtkfbkooobfepeaaDoor
open Go Go.Sx Sf
set_option maxRecDepth 100000
set_option linter.unusedSimpArgs false
set_option linter.unusedVariables false
variable {tS : List (Nat × List SV)}
def tab0 : Tab := ⟨[], []⟩
theorem tab0_ok : TabX Tryd.prog tS tab0 := ⟨fun x h => by simp [tab0] at h, fun x h => by simp [tab0] at h⟩

theorem rot_amt {r : Nat} (h1 : 1 ≤ r) (h2 : r ≤ 31) : bitop .and .u64 (IntKind.u64.wrap (-(r : Int))) 31 = ((32 - r : Nat) : Int) ∧
    IntKind.u64.wrap (32 - ((32 - r : Nat) : Int)) = (r : Int) := by
  have : ∀ r : Fin 32, 1 ≤ r.val → bitop .and .u64 (IntKind.u64.wrap (-(r.val : Int))) 31 = ((32 - r.val : Nat) : Int) ∧ IntKind.u64.wrap (32 - ((32 - r.val : Nat) : Int)) = (r.val : Int) := by decide
  exact this ⟨r, by omega⟩ h1

def rotI (n : Int) (r : Nat) : Int := bitop .or .u32 (IntKind.u32.wrap (n * 2 ^ (min (32 - r) IntKind.u32.bits))) (n.fdiv (2 ^ (min r IntKind.u32.bits)))
theorem f104 (n : Int) (r : Nat) (h1 : 1 ≤ r) (h2 : r ≤ 31) : Fun Tryd.prog tS 104 [.int .u32 n, .int .i64 (-(r : Int))] [] 0 (.int .u32 (rotI n r)) [] 0 := by
  refine fun_pure none (callX tab0) (callX_ok tab0_ok) chk104 (show 2 ≤ 17 by decide) (fun _ => rfl) ?_
  unfold sf104
  obtain ⟨e1, e2⟩ := rot_amt h1 h2
  have e3 : (0 : Int) ≤ ((32 - r : Nat) : Int) := by omega
  have e4 : (0 : Int) ≤ (r : Int) := by omega
  have t1 : ((32 - r : Nat) : Int).toNat = 32 - r := by omega
  have t2 : ((r : Nat) : Int).toNat = r := by omega
  simp (config := { maxSteps := 1000000 }) only [e1, e2, e3, e4, t1, t2, rotI, tab0, SV.flatL, SV.flat, Bool.and_true, Bool.and_self, Bool.true_and, beq_self_eq_true, Int.reduceGE, Int.reduceGT, ↓u_callAnd, Blk.mk.injEq, List.cons.injEq, SV.int.injEq, SV.bool.injEq, SV.tup.injEq, SV.agg.injEq, and_self, undef, Int.reduceBNe, Int.reduceBEq, Nat.reduceBNe, Nat.reduceBEq, ↓u_callX, lookF, setv, finO_r, finO_n, finO_x, again_n, again_x, again_r, lookT, eqPat, eqTag, reduceCtorEq, Nat.reduceEqDiff, Nat.reduceAdd, Nat.reduceSub, Nat.reduceMul, Nat.reduceDiv, Nat.reduceLeDiff, Nat.reduceLT, Int.reduceToNat, Int.reduceLT, Int.reduceLE, Int.reduceAdd, Int.reduceSub, Int.reduceMul, Int.reduceNeg, Int.reduceEq, Int.reduceNe, wrap64, false_imp_iff, true_imp_iff, eq_self, decide_true, decide_false, Int.cast_ofNat_Int,  true_and, and_true, false_and, and_false, imp_self, implies_true, List.getElem?_cons_zero, List.getElem?_cons_succ, List.length_cons, List.length_nil, List.append_nil, List.nil_append, List.cons_append, List.take_succ_cons, List.take_zero, List.drop_succ_cons, List.drop_zero, List.take_nil, List.drop_nil, List.reverse_cons, List.reverse_nil, List.map_cons, List.map_nil, Nat.zero_add, Nat.add_zero, frOf, den_nil, den_o0, ↓gd_tt, ↓gd_ff, ↓gd_tf, ↓gd_ft, gd_any, den_o1, kont_app, den_g, setv, Bool.not_true, Bool.not_false, den_skip, den_reg, den_regD, den_regP, den_A, den_regW, den_W, den_bad, evW, baseD, stBlk, touch, clear, untouched, updsW, List.all_cons, List.all_nil, List.contains_cons, List.contains_nil, Bool.not_true, Bool.not_false, Bool.or_false, Bool.or_self, Bool.false_or, Bool.true_or, Bool.or_true, den_seq, den_cond, den_block, den_exit, den_ret, den_b, den_xb, den_xo, den_xc, den_xu, den_rb, den_ro, den_rc, den_ru, den_u, den_loopU, finP_r, finP_n, finP_x, finE_r, finE_n, finE_x, ↓reduceIte, ↓e_box, ↓e_build, ↓e_bslice, ↓e_load, ↓e_store, ↓e_idxS, ↓e_idxV, ↓e_idxT, ↓e_fieldV, ↓e_eqv, ↓e_isNil, ↓e_b2s, ↓e_slcS, ↓e_arrAt, ↓e_ext, ↓e_app, ↓e_copy, ↓e_mv, ↓e_pick, ↓e_new, ↓e_nilc, ↓e_fld, ↓e_idxA, ↓e_bin, ↓e_eqb, ↓e_un, ↓e_conv, ↓e_strS, ↓e_s2b, ↓e_mkfn, ↓e_mksl, ↓e_slcA, ↓e_slcT, ↓e_call, ↓e_callp, ↓e_callv, ↓e_len, ↓e_lenA, ↓e_mx, ↓e_mn, ↓e_mkmap, ↓e_mput, ↓e_mlen, ↓e_mk8, ↓e_capN, ↓e_appZ, ↓u_onInt, ↓u_onBool, ↓u_onOpt0, ↓u_onOpt1, ↓u_binV, ↓u_srcOf, ↓u_srcSl, ↓binI, ↓binS, ↓fillE, ↓evRes, evA, Opd.ev, Sx.get, put, putO, del, dels, frD, memD, pickD, kills, views, newer, rd, rm, upd, splice, keysOf, kvOf, SV.cells?, SV.one, retOf]

def gRot : List SV → Option SV
  | [.int .u32 n, .int .i64 (.negSucc k)] => if k + 1 ≤ 31 then some (.int .u32 (rotI n (k + 1))) else none
  | _ => none
theorem g104 {n : Int} {r : Nat} (h1 : 1 ≤ r) (h2 : r ≤ 31) : gRot [.int .u32 n, .int .i64 (-(r : Int))] = some (.int .u32 (rotI n r)) := by
  obtain ⟨k, rfl⟩ : ∃ k, r = k + 1 := ⟨r - 1, by omega⟩
  show gRot [.int .u32 n, .int .i64 (.negSucc k)] = _
  simp only [gRot]
  rw [if_pos h2]
def tab1 : Tab := ⟨[(104, gRot)], []⟩
theorem tab1_ok : TabX Tryd.prog tS tab1 := by
  refine ⟨fun x h args r hr => ?_, fun x h => by simp [tab1] at h⟩
  simp only [tab1, List.mem_singleton] at h
  subst h
  simp only at hr
  unfold gRot at hr
  split at hr
  · rename_i n k
    split at hr
    · rename_i hc
      cases hr
      exact ⟨f104 n (k + 1) (by omega) hc, fun η => by simp only [SV.renL, SV.ren], fun η => by simp only [SV.renL, SV.ren]⟩
    · cases hr
  · cases hr

def mixI (n : Int) (i j k : Nat) : Int := bitop .xor .u32 (bitop .xor .u32 (rotI n i) (rotI n j)) (rotI n k)
theorem f87 (n : Int) (i j k : Nat) (hi : 1 ≤ i ∧ i ≤ 31) (hj : 1 ≤ j ∧ j ≤ 31) (hk : 1 ≤ k ∧ k ≤ 31) :
    Fun Tryd.prog tS 87 [.int .u32 n, .int .i64 (i : Int), .int .i64 (j : Int), .int .i64 (k : Int)] [] 0 (.int .u32 (mixI n i j k)) [] 0 := by
  refine fun_pure none (callX tab1) (callX_ok tab1_ok) chk87 (show 4 ≤ 23 by decide) (fun _ => rfl) ?_
  unfold sf87
  have G1 := @g104 n i hi.1 hi.2
  have G2 := @g104 n j hj.1 hj.2
  have G3 := @g104 n k hk.1 hk.2
  have w1 : IntKind.i64.wrap (0 - (i : Int)) = -(i : Int) := by rw [wrap64 (by omega) (by omega)]; omega
  have w2 : IntKind.i64.wrap (0 - (j : Int)) = -(j : Int) := by rw [wrap64 (by omega) (by omega)]; omega
  have w3 : IntKind.i64.wrap (0 - (k : Int)) = -(k : Int) := by rw [wrap64 (by omega) (by omega)]; omega
  simp (config := { maxSteps := 1000000 }) only [w1, w2, w3, ↓G1, ↓G2, ↓G3, mixI, tab1, SV.flatL, SV.flat, Bool.and_true, Bool.and_self, Bool.true_and, beq_self_eq_true, Int.reduceGE, Int.reduceGT, ↓u_callAnd, Blk.mk.injEq, List.cons.injEq, SV.int.injEq, SV.bool.injEq, SV.tup.injEq, SV.agg.injEq, and_self, undef, Int.reduceBNe, Int.reduceBEq, Nat.reduceBNe, Nat.reduceBEq, ↓u_callX, lookF, setv, finO_r, finO_n, finO_x, again_n, again_x, again_r, lookT, eqPat, eqTag, reduceCtorEq, Nat.reduceEqDiff, Nat.reduceAdd, Nat.reduceSub, Nat.reduceMul, Nat.reduceDiv, Nat.reduceLeDiff, Nat.reduceLT, Int.reduceToNat, Int.reduceLT, Int.reduceLE, Int.reduceAdd, Int.reduceSub, Int.reduceMul, Int.reduceNeg, Int.reduceEq, Int.reduceNe, wrap64, false_imp_iff, true_imp_iff, eq_self, decide_true, decide_false, Int.cast_ofNat_Int,  true_and, and_true, false_and, and_false, imp_self, implies_true, List.getElem?_cons_zero, List.getElem?_cons_succ, List.length_cons, List.length_nil, List.append_nil, List.nil_append, List.cons_append, List.take_succ_cons, List.take_zero, List.drop_succ_cons, List.drop_zero, List.take_nil, List.drop_nil, List.reverse_cons, List.reverse_nil, List.map_cons, List.map_nil, Nat.zero_add, Nat.add_zero, frOf, den_nil, den_o0, ↓gd_tt, ↓gd_ff, ↓gd_tf, ↓gd_ft, gd_any, den_o1, kont_app, den_g, setv, Bool.not_true, Bool.not_false, den_skip, den_reg, den_regD, den_regP, den_A, den_regW, den_W, den_bad, evW, baseD, stBlk, touch, clear, untouched, updsW, List.all_cons, List.all_nil, List.contains_cons, List.contains_nil, Bool.not_true, Bool.not_false, Bool.or_false, Bool.or_self, Bool.false_or, Bool.true_or, Bool.or_true, den_seq, den_cond, den_block, den_exit, den_ret, den_b, den_xb, den_xo, den_xc, den_xu, den_rb, den_ro, den_rc, den_ru, den_u, den_loopU, finP_r, finP_n, finP_x, finE_r, finE_n, finE_x, ↓reduceIte, ↓e_box, ↓e_build, ↓e_bslice, ↓e_load, ↓e_store, ↓e_idxS, ↓e_idxV, ↓e_idxT, ↓e_fieldV, ↓e_eqv, ↓e_isNil, ↓e_b2s, ↓e_slcS, ↓e_arrAt, ↓e_ext, ↓e_app, ↓e_copy, ↓e_mv, ↓e_pick, ↓e_new, ↓e_nilc, ↓e_fld, ↓e_idxA, ↓e_bin, ↓e_eqb, ↓e_un, ↓e_conv, ↓e_strS, ↓e_s2b, ↓e_mkfn, ↓e_mksl, ↓e_slcA, ↓e_slcT, ↓e_call, ↓e_callp, ↓e_callv, ↓e_len, ↓e_lenA, ↓e_mx, ↓e_mn, ↓e_mkmap, ↓e_mput, ↓e_mlen, ↓e_mk8, ↓e_capN, ↓e_appZ, ↓u_onInt, ↓u_onBool, ↓u_onOpt0, ↓u_onOpt1, ↓u_binV, ↓u_srcOf, ↓u_srcSl, ↓binI, ↓binS, ↓fillE, ↓evRes, evA, Opd.ev, Sx.get, put, putO, del, dels, frD, memD, pickD, kills, views, newer, rd, rm, upd, splice, keysOf, kvOf, SV.cells?, SV.one, retOf]
end Go.Proofs.YtkfbkooobfepeaaDoor

/- SHA-256 of package hash: the schedule. -/
namespace Go.Proofs.YtkfbkooobfepeaaDoor
open Go Go.Sx Sf
set_option maxRecDepth 100000
set_option linter.unusedVariables false
variable {tS : List (Nat × List SV)}
def u8 (n : Int) : SV := .int .u8 n
def addI (a b : Int) : Int := IntKind.u32.wrap (a + b)
def shrI (n : Int) (r : Nat) : Int := n.fdiv (2 ^ (min r IntKind.u32.bits))
def pushB (w c : Int) : Int := bitop .or .u32 (IntKind.u32.wrap (w * 2 ^ (min 8 IntKind.u32.bits))) (IntKind.u32.wrap c)
def be4 (b : List Int) (t : Nat) : Int := pushB (pushB (pushB (pushB 0 (b.getD (4 * t) 0)) (b.getD (4 * t + 1) 0)) (b.getD (4 * t + 2) 0)) (b.getD (4 * t + 3) 0)
def sig0 (p : Int) : Int := bitop .xor .u32 (bitop .xor .u32 (rotI p 7) (rotI p 18)) (shrI p 3)
def sig1 (q : Int) : Int := bitop .xor .u32 (bitop .xor .u32 (rotI q 17) (rotI q 19)) (shrI q 10)
def nxt (b l : List Int) (t : Nat) : Int :=
  if t < 16 then be4 b t else addI (addI (addI (l.getD (t - 16) 0) (sig0 (l.getD (t - 15) 0))) (l.getD (t - 7) 0)) (sig1 (l.getD (t - 2) 0))
def schI (b : List Int) : Nat → List Int
  | 0 => []
  | t + 1 => schI b t ++ [nxt b (schI b t) t]
theorem schI_len (b : List Int) : ∀ t, (schI b t).length = t
  | 0 => rfl
  | t + 1 => by simp [schI, schI_len b t]
def cW (b : List Int) (t : Nat) : List SV := (schI b t).map u32 ++ List.replicate (64 - t) (u32 0)
theorem cW_len {b : List Int} {t : Nat} (h : t ≤ 64) : (cW b t).length = 64 := by simp [cW, schI_len]; omega
theorem cW_get {b : List Int} {t j : Nat} (h : j < t) : (cW b t)[j]? = some (u32 ((schI b t).getD j 0)) := by
  unfold cW
  rw [List.getElem?_append_left (by simp [schI_len, h])]
  simp [List.getD_eq_getElem?_getD, schI_len, h]
theorem cW_new {b : List Int} {t : Nat} (h : t < 64) : (cW b t)[t]? = some (u32 0) := by
  unfold cW
  rw [List.getElem?_append_right (by simp [schI_len]), List.getElem?_replicate, if_pos (by simp only [List.length_map, schI_len]; omega)]
def cM (b : List Int) (t : Nat) (v : SV) : List SV := (schI b t).map u32 ++ v :: List.replicate (63 - t) (u32 0)
theorem cW_put {b : List Int} {t : Nat} (h : t < 64) (v : SV) : splice (cW b t) t [v] = cM b t v := by
  unfold splice cW cM
  have e : 64 - t = (63 - t) + 1 := by omega
  rw [List.take_left' (by simp [schI_len]), e, List.replicate_succ]
  simp [List.drop_append, schI_len]
theorem cM_len {b : List Int} {t : Nat} (h : t < 64) (v : SV) : (cM b t v).length = 64 := by simp [cM, schI_len]; omega
theorem cM_get {b : List Int} {t : Nat} (v : SV) : (cM b t v)[t]? = some v := by
  unfold cM
  rw [List.getElem?_append_right (by simp [schI_len])]
  simp [schI_len]
theorem cM_put {b : List Int} {t : Nat} (v v' : SV) : splice (cM b t v) t [v'] = cM b t v' := by
  unfold splice cM
  rw [List.take_left' (by simp [schI_len])]
  simp [List.drop_append, schI_len]
theorem cM_step {b : List Int} {t : Nat} : cM b t (.int .u32 (nxt b (schI b t) t)) = cW b (t + 1) := by
  unfold cM cW
  simp only [schI, List.map_append, List.map_cons, List.map_nil, List.append_assoc, List.cons_append, List.nil_append]
  rw [show 64 - (t + 1) = 63 - t by omega]; rfl
theorem cW_ren (η : Nat → Nat × Nat) (b : List Int) (t : Nat) : SV.renL η (cW b t) = cW b t := by
  rw [SV.renL_eq]
  unfold cW
  simp [u32, SV.ren]
theorem cM_ren (η : Nat → Nat × Nat) (b : List Int) (t : Nat) (n : Int) : SV.renL η (cM b t (.int .u32 n)) = cM b t (.int .u32 n) := by
  rw [SV.renL_eq]
  unfold cM
  simp [u32, SV.ren]
theorem u8_ren (η : Nat → Nat × Nat) (b : List Int) : SV.renL η (b.map u8) = b.map u8 := by
  rw [SV.renL_eq]
  simp [u8, SV.ren]
def z64 : List SV := List.replicate 64 (.int .u32 0)
theorem z64_ren (η : Nat → Nat × Nat) : SV.renL η z64 = z64 := by
  rw [SV.renL_eq]
  unfold z64
  rw [List.map_replicate]; rfl
theorem cW_all (b : List Int) : cW b 64 = (schI b 64).map u32 := by simp [cW]
theorem ren_u32 (η : Nat → Nat × Nat) (l : List Int) : (SV.agg (l.map u32)).ren η = SV.agg (l.map u32) := by
  simp only [SV.ren, SV.renL_eq, List.map_map]
  congr 1
theorem f86 (b : List Int) (hb : b.length = 64) (cap : Option Nat) (hcap : CapOk cap 64) : Fun Tryd.prog tS 86 [.slc 0 0 1 64 cap] [(0, ⟨.view, b.map u8⟩)] 1 (.agg ((schI b 64).map u32)) [] 1 := by
  refine fun_val none (callX tab1) (callX_ok tab1_ok) chk86 (show 1 ≤ 79 by decide) (fun η => ren_u32 η _) ?_
  unfold sf86
  simp (config := { maxSteps := 1000000 }) only [tab1, reduceCtorEq, Nat.reduceEqDiff, Nat.reduceAdd, Int.reduceNeg, frOf, den_o0, den_o1, kont_app, den_reg, den_seq, den_block, ↓reduceIte, ↓e_mv, ↓e_new, Opd.ev, put, putO, del, dels]
  rw [den_loop]
  have hW := fun η t => cW_ren η b t
  have hM := fun η t n => cM_ren η b t n
  have hB := fun η => u8_ren η b
  have hz := fun η => z64_ren η
  refine den_inv (callX_ok tab1_ok) (σ := Nat) (fun t => [(11, .int .i64 (t : Int)), (3, .ptr 2 0), (2, .ptr 1 0), (0, .slc 0 0 1 64 cap)])
    (fun t => [(2, ⟨.own 121, cW b t⟩), (1, ⟨.own 121, z64⟩), (0, ⟨.view, b.map u8⟩)]) (fun _ => 3) (fun t => t ≤ 64) (fun t => 64 - t) 0 ?_ (Nat.zero_le _) ?_
  · exact ⟨[(0, 0), (1, 0), (2, 0)], by simp only [hW, hB, hz, EntM, compat, apartM, keysBelow, eta, idHs, rd, Option.getD_some, List.getElem?_cons_zero, List.getElem?_cons_succ, List.length_cons, List.length_nil, Nat.zero_add, Nat.add_zero, Nat.reduceAdd, Nat.reduceSub, Nat.reduceLT, Nat.reduceLeDiff, ↓reduceIte, Kind.isOwn, List.take_succ_cons, List.take_zero, List.nil_append, and_self, and_true, true_and, exists_eq_left', Option.some.injEq, List.drop_zero, List.take_length, Nat.le_refl, ne_eq, not_false_eq_true, implies_true, List.not_mem_nil, false_imp_iff, Bool.false_or, Bool.true_or, forall_const, reduceCtorEq, List.mem_cons, or_false, forall_eq_or_imp, forall_eq, Nat.succ_ne_self]; trivial, by simp [frEnt, geto, eta, SV.ren, Option.getD_some, List.length_cons, List.length_nil, Nat.zero_add, Nat.add_zero, Nat.reduceAdd, Nat.reduceEqDiff, Nat.reduceLT, Nat.reduceLeDiff, ↓reduceIte, and_self, reduceCtorEq, Nat.succ_ne_self]⟩
  · intro t ht
    by_cases h64 : t < 64
    · have i1 : (t : Int) < 64 := by omega
      have i0 : (0 : Int) ≤ (t : Int) := by omega
      have wt : IntKind.i64.wrap ((t : Int) + 1) = ((t + 1 : Nat) : Int) := by rw [wrap64 (by omega) (by omega)]; omega
      by_cases h16 : t < 16
      · have i2 : (t : Int) < 16 := by omega
        have w1 : IntKind.i64.wrap (4 * (t : Int)) = ((4 * t : Nat) : Int) := by rw [wrap64 (by omega) (by omega)]; omega
        have w2 : IntKind.i64.wrap (((4 * t : Nat) : Int) + 4) = ((4 * t + 4 : Nat) : Int) := by rw [wrap64 (by omega) (by omega)]; omega
        have k0 : 4 * t + 4 ≤ 64 := by omega
        have hlen : (b.map u8).length = 64 := by simp [hb]
        have v1 : (0 : Int) ≤ ((4 * t : Nat) : Int) := by omega
        have v2 : ((4 * t : Nat) : Int) ≤ ((4 * t + 4 : Nat) : Int) := by omega
        have v3 : ((4 * t + 4 : Nat) : Int) ≤ 64 := by omega
        have v4 : 4 * t + 4 - 4 * t = 4 := by omega
        simp (config := { maxSteps := 1000000 }) only [i1, i2, w1, w2, v1, v2, v3, v4, hlen, Int.toNat_natCast, Nat.mul_one, reduceCtorEq, Nat.reduceEqDiff, Nat.reduceLeDiff, Int.reduceNeg, eq_self, decide_true, Int.cast_ofNat_Int,  true_and, Nat.zero_add, den_o0, ↓gd_tt, den_o1, kont_app, den_skip, den_reg, den_seq, den_cond, den_block, ↓reduceIte, ↓e_slcS, ↓e_mv, ↓e_bin, ↓e_len, ↓u_onOpt1, ↓u_binV, ↓binI, Opd.ev, Sx.get, put, putO, del, dels, rd]
        refine ⟨by cases cap with
          | none => trivial
          | some c => exact hcap c rfl, ?_⟩
        rw [den_loop]
        refine den_unroll (callX_ok tab1_ok) (callT_point _ _) 5 ?_
        have hj : ∀ j, 4 * t + j < 64 → (b.map u8)[4 * t + j]? = some (u8 (b.getD (4 * t + j) 0)) := by
          intro j hj
          simp [List.getD_eq_getElem?_getD, show 4 * t + j < b.length by omega]
        have h0 := hj 0 (by omega)
        rw [Nat.add_zero] at h0
        have h1 := hj 1 (by omega)
        have h2 := hj 2 (by omega)
        have h3 := hj 3 (by omega)
        have lt1 : ∀ j, j < 4 → 4 * t + j < 64 := by omega
        simp (config := { maxSteps := 1000000 }) only [h0, h1, h2, h3, hlen, i1, i0, cW_len ht, cM_len h64, cW_new h64, cW_put h64, cM_get, cM_put, Int.toNat_natCast, Nat.mul_one, wt, u8, u32, again_n, reduceCtorEq, Nat.reduceEqDiff, Nat.reduceLeDiff, Int.reduceToNat, Int.reduceLT, Int.reduceLE, Int.reduceAdd, Int.reduceNeg, wrap64, eq_self, decide_true, decide_false, Int.cast_ofNat_Int,  true_and, List.length_cons, List.length_nil, List.map_cons, List.map_nil, Nat.zero_add, Nat.add_zero, den_nil, den_o0, ↓gd_tt, ↓gd_ft, den_o1, kont_app, den_skip, den_reg, den_seq, den_cond, den_block, den_exit, den_b, den_xb, den_xc, den_xu, den_u, ↓reduceIte, ↓e_load, ↓e_store, ↓e_idxS, ↓e_mv, ↓e_idxA, ↓e_bin, ↓e_conv, ↓u_onInt, ↓u_binV, ↓binI, Opd.ev, Sx.get, put, putO, del, dels, rd, upd, SV.cells?, SV.one]
        refine ⟨by omega, by omega, by omega, by omega, by omega, by omega, by omega, by omega, t + 1, ⟨[(0, 0), (1, 0), (2, 0)], ?_, by simp [frEnt, geto, eta, SV.ren, Option.getD_some, List.length_cons, List.length_nil, Nat.zero_add, Nat.add_zero, Nat.reduceAdd, Nat.reduceEqDiff, Nat.reduceLT, Nat.reduceLeDiff, ↓reduceIte, and_self, reduceCtorEq, Nat.succ_ne_self]⟩, by omega, by omega⟩
        rw [← cM_step (b := b) (t := t), show nxt b (schI b t) t = be4 b t from if_pos h16]
        unfold be4 pushB
        simp only [hM, hB, hz, EntM, compat, apartM, keysBelow, eta, idHs, rd, Option.getD_some, List.getElem?_cons_zero, List.getElem?_cons_succ, List.length_cons, List.length_nil, Nat.zero_add, Nat.add_zero, Nat.reduceAdd, Nat.reduceSub, Nat.reduceLT, Nat.reduceLeDiff, ↓reduceIte, Kind.isOwn, List.take_succ_cons, List.take_zero, List.nil_append, and_self, true_and, exists_eq_left', Option.some.injEq, List.drop_zero, List.take_length, Nat.le_refl, ne_eq, not_false_eq_true, implies_true, List.not_mem_nil, false_imp_iff, Bool.false_or, Bool.true_or, forall_const, reduceCtorEq, List.mem_cons, or_false, forall_eq_or_imp, forall_eq, Nat.succ_ne_self]
      · have i2 : ¬ (t : Int) < 16 := by omega
        have a1 : IntKind.i64.wrap ((t : Int) - 15) = ((t - 15 : Nat) : Int) := by rw [wrap64 (by omega) (by omega)]; omega
        have a2 : IntKind.i64.wrap ((t : Int) - 2) = ((t - 2 : Nat) : Int) := by rw [wrap64 (by omega) (by omega)]; omega
        have a3 : IntKind.i64.wrap ((t : Int) - 16) = ((t - 16 : Nat) : Int) := by rw [wrap64 (by omega) (by omega)]; omega
        have a4 : IntKind.i64.wrap ((t : Int) - 7) = ((t - 7 : Nat) : Int) := by rw [wrap64 (by omega) (by omega)]; omega
        have b1 : (0 : Int) ≤ ((t - 15 : Nat) : Int) ∧ ((t - 15 : Nat) : Int) < 64 := by omega
        have b2 : (0 : Int) ≤ ((t - 2 : Nat) : Int) ∧ ((t - 2 : Nat) : Int) < 64 := by omega
        have b3 : (0 : Int) ≤ ((t - 16 : Nat) : Int) ∧ ((t - 16 : Nat) : Int) < 64 := by omega
        have b4 : (0 : Int) ≤ ((t - 7 : Nat) : Int) ∧ ((t - 7 : Nat) : Int) < 64 := by omega
        have c1 : (cW b t)[t - 15]? = _ := cW_get (by omega)
        have c2 : (cW b t)[t - 2]? = _ := cW_get (by omega)
        have c3 : (cW b t)[t - 16]? = _ := cW_get (by omega)
        have c4 : (cW b t)[t - 7]? = _ := cW_get (by omega)
        have g7 : ∀ n, gRot [.int .u32 n, .int .i64 (-7)] = some (.int .u32 (rotI n 7)) := fun n => g104 (r := 7) (by decide) (by decide)
        have g18 : ∀ n, gRot [.int .u32 n, .int .i64 (-18)] = some (.int .u32 (rotI n 18)) := fun n => g104 (r := 18) (by decide) (by decide)
        have g17 : ∀ n, gRot [.int .u32 n, .int .i64 (-17)] = some (.int .u32 (rotI n 17)) := fun n => g104 (r := 17) (by decide) (by decide)
        have g19 : ∀ n, gRot [.int .u32 n, .int .i64 (-19)] = some (.int .u32 (rotI n 19)) := fun n => g104 (r := 19) (by decide) (by decide)
        simp (config := { maxSteps := 1000000 }) only [i1, i2, i0, a1, a2, a3, a4, b1.1, b2.1, b3.1, b4.1, b1.2, b2.2, b3.2, b4.2, c1, c2, c3, c4, ↓g7, ↓g18, ↓g17, ↓g19, cW_len ht, cW_put h64, Int.toNat_natCast, Nat.mul_one, wt, u32, SV.flatL, SV.flat, Bool.and_self, ↓u_callX, lookF, again_n, reduceCtorEq, Nat.reduceEqDiff, Nat.reduceLeDiff, Int.reduceToNat, Int.reduceLE, Int.reduceNeg, eq_self, decide_true, decide_false, Int.cast_ofNat_Int,  true_and, List.length_cons, List.length_nil, List.map_cons, List.map_nil, Nat.zero_add, den_nil, den_o0, ↓gd_tt, ↓gd_ft, den_o1, kont_app, den_skip, den_reg, den_regP, den_seq, den_cond, den_block, den_b, ↓reduceIte, ↓e_load, ↓e_store, ↓e_mv, ↓e_idxA, ↓e_bin, ↓e_callp, ↓u_onInt, ↓u_binV, ↓binI, Opd.ev, Sx.get, put, putO, del, dels, rd, upd, SV.cells?, SV.one]
        refine ⟨by omega, t + 1, ⟨[(0, 0), (1, 0), (2, 0)], ?_, by simp [frEnt, geto, eta, SV.ren, Option.getD_some, List.length_cons, List.length_nil, Nat.zero_add, Nat.add_zero, Nat.reduceAdd, Nat.reduceEqDiff, Nat.reduceLT, Nat.reduceLeDiff, ↓reduceIte, and_self, reduceCtorEq, Nat.succ_ne_self]⟩, by omega, by omega⟩
        rw [← cM_step (b := b) (t := t), show nxt b (schI b t) t = _ from if_neg h16]
        unfold addI sig0 sig1 shrI
        simp only [hM, hB, hz, EntM, compat, apartM, keysBelow, eta, idHs, rd, Option.getD_some, List.getElem?_cons_zero, List.getElem?_cons_succ, List.length_cons, List.length_nil, Nat.zero_add, Nat.add_zero, Nat.reduceAdd, Nat.reduceSub, Nat.reduceLT, Nat.reduceLeDiff, ↓reduceIte, Kind.isOwn, List.take_succ_cons, List.take_zero, List.nil_append, and_self, true_and, exists_eq_left', Option.some.injEq, List.drop_zero, List.take_length, Nat.le_refl, ne_eq, not_false_eq_true, implies_true, List.not_mem_nil, false_imp_iff, Bool.false_or, Bool.true_or, forall_const, reduceCtorEq, List.mem_cons, or_false, forall_eq_or_imp, forall_eq, Nat.succ_ne_self]
    · obtain rfl : t = 64 := by omega
      simp (config := { maxSteps := 1000000 }) only [Int.cast_ofNat_Int, SV.agg.injEq, again_x, reduceCtorEq, Nat.reduceEqDiff, Int.reduceLT, Int.reduceNeg, eq_self, decide_false, Int.cast_ofNat_Int,  true_and, List.nil_append, List.take_zero, List.drop_zero, List.map_cons, List.map_nil, Nat.zero_add, den_nil, den_o0, ↓gd_ft, den_o1, kont_app, den_reg, den_seq, den_cond, den_exit, den_ret, den_xb, den_xc, finP_r, ↓reduceIte, ↓e_load, ↓e_store, ↓e_bin, ↓u_binV, ↓binI, ↓evRes, Opd.ev, Sx.get, put, putO, del, dels, rd, upd, splice, SV.cells?, retOf]
      have hl := cW_len (b := b) (Nat.le_refl 64)
      have hz : z64.length = 64 := by simp [z64]
      have hd : List.drop 64 z64 = [] := List.drop_of_length_le (by omega)
      rw [List.take_of_length_le (by omega : (cW b 64).length ≤ 64), hl, hd, List.append_nil, hl, hz, List.take_of_length_le (by omega : (cW b 64).length ≤ 64), cW_all]
      exact ⟨Nat.le_refl _, rfl, Nat.le_refl _, Nat.le_refl _, rfl⟩
end Go.Proofs.YtkfbkooobfepeaaDoor

/- SHA-256 of package hash: a block. -/
namespace Go.Proofs.YtkfbkooobfepeaaDoor
open Go Go.Sx Sf
set_option maxRecDepth 100000
set_option linter.unusedSimpArgs false
set_option linter.unusedVariables false
variable {tS : List (Nat × List SV)}
def unI8 : List SV → Option (List Int)
  | [] => some []
  | .int .u8 n :: l => match unI8 l with
    | some r => some (n :: r)
    | none => none
  | _ => none
theorem unI8_map : ∀ b : List Int, unI8 (b.map u8) = some b
  | [] => rfl
  | n :: b => by simp only [List.map_cons, u8, unI8]; rw [show List.map u8 b = b.map u8 from rfl, unI8_map b]
theorem unI8_some : ∀ {l : List SV} {b : List Int}, unI8 l = some b → l = b.map u8
  | [], b, h => by simp only [unI8] at h; cases h; rfl
  | x :: l, b, h => by
    unfold unI8 at h
    split at h
    · rename_i he; cases he
    · rename_i n l' he
      cases he
      split at h
      · rename_i r hr; cases h; rw [unI8_some hr]; rfl
      · cases h
    · cases h
def gSch : GS
  | [.slc 0 0 1 64 cap], [(0, ⟨.view, cells⟩)] => match unI8 cells with
    | some b => match Nat.beq b.length 64, capB cap 64 with
      | true, true => some (.agg ((schI b 64).map u32), [], 1)
      | _, _ => none
    | none => none
  | _, _ => none
theorem gSch_ok : FunS Tryd.prog tS 86 gSch := by
  intro a0 m0 r m1 n1 h
  unfold gSch at h
  split at h
  · rename_i cap cells
    split at h
    · rename_i b hb
      split at h
      · rename_i h1 h2
        cases h
        rw [unI8_some hb]
        exact ⟨f86 b (Nat.eq_of_beq_eq_true h1) cap (capB_ok h2), by simp [freshB]⟩
      · cases h
    · cases h
  · cases h
end Go.Proofs.YtkfbkooobfepeaaDoor

/- SHA-256 of package hash: the compression of a block. -/
namespace Go.Proofs.YtkfbkooobfepeaaDoor
open Go Go.Sx Sf
set_option maxRecDepth 100000
set_option linter.unusedSimpArgs false
set_option linter.unusedVariables false
variable {tS : List (Nat × List SV)}
def andI (a b : Int) : Int := bitop .and .u32 a b
def xorI (a b : Int) : Int := bitop .xor .u32 a b
def notI (a : Int) : Int := bitop .xor .u32 (if IntKind.u32.signed then -1 else IntKind.u32.max) a
structure V8 where
  a : Int
  b : Int
  c : Int
  d : Int
  e : Int
  f : Int
  g : Int
  h : Int
def V8.round (s : V8) (w k : Int) : V8 :=
  let x := addI (addI (addI (addI s.h (mixI s.e 6 11 25)) (xorI (andI s.e s.f) (andI (notI s.e) s.g))) k) w
  let y := addI (mixI s.a 2 13 22) (xorI (xorI (andI s.a s.b) (andI s.a s.c)) (andI s.b s.c))
  ⟨addI x y, s.a, s.b, s.c, addI s.d x, s.e, s.f, s.g⟩
def V8.rounds (w : List Int) (s : V8) : Nat → V8
  | 0 => s
  | t + 1 => (V8.rounds w s t).round (w.getD t 0) (kc.getD t 0)
def V8.l (s : V8) : List Int := [s.a, s.b, s.c, s.d, s.e, s.f, s.g, s.h]
def V8.add (s v : V8) : V8 := ⟨addI s.a v.a, addI s.b v.b, addI s.c v.c, addI s.d v.d, addI s.e v.e, addI s.f v.f, addI s.g v.g, addI s.h v.h⟩
def comp (s : V8) (b : List Int) : V8 := s.add (V8.rounds (schI b 64) s 64)
def gMix : List SV → Option SV
  | [.int .u32 n, .int .i64 (.ofNat i), .int .i64 (.ofNat j), .int .i64 (.ofNat k)] => if (1 ≤ i ∧ i ≤ 31) ∧ (1 ≤ j ∧ j ≤ 31) ∧ (1 ≤ k ∧ k ≤ 31) then some (.int .u32 (mixI n i j k)) else none
  | _ => none
def tab2 : Tab := ⟨[(104, gRot), (87, gMix)], []⟩
theorem tab2_ok : TabX Tryd.prog tS tab2 := by
  refine ⟨fun x h args r hr => ?_, fun x h => by simp [tab2] at h⟩
  simp only [tab2, List.mem_cons, List.not_mem_nil, or_false] at h
  rcases h with rfl | rfl
  · exact tab1_ok.p _ (by simp [tab1]) args r hr
  · simp only at hr
    unfold gMix at hr
    split at hr
    · split at hr
      · rename_i hc
        cases hr
        exact ⟨f87 _ _ _ _ hc.1 hc.2.1 hc.2.2, fun η => by simp only [SV.renL, SV.ren], fun η => by simp only [SV.renL, SV.ren]⟩
      · cases hr
    · cases hr
def callH : CallT := callS [(86, gSch)] (callX tab2)
theorem callH_ok : ∀ f a m n K, callH f a m n K → callT Tryd.prog tS f a m n K :=
  callS_ok (fun x h => by simp only [List.mem_singleton] at h; subst h; exact gSch_ok) (callX_ok tab2_ok)
end Go.Proofs.YtkfbkooobfepeaaDoor

/- SHA-256 of package hash: compress. -/
namespace Go.Proofs.YtkfbkooobfepeaaDoor
open Go Go.Sx Sf
set_option maxRecDepth 100000
set_option linter.unusedVariables false
theorem unI8_len {b : List Int} (hb : b.length = 64) : Nat.beq b.length 64 = true := by rw [hb]; rfl
theorem flat_u8 : ∀ b : List Int, SV.flatL (b.map u8) = true
  | [] => rfl
  | n :: b => by simp only [List.map_cons, SV.flatL, u8, SV.flat, Bool.true_and]; exact flat_u8 b
def z8 : List SV := [.int .u32 0, .int .u32 0, .int .u32 0, .int .u32 0, .int .u32 0, .int .u32 0, .int .u32 0, .int .u32 0]
theorem ren_w (η : Nat → Nat × Nat) (l : List Int) : SV.renL η (l.map u32) = l.map u32 := by
  simp only [SV.renL_eq, List.map_map]
  congr 1
theorem look0 : lookT tH 0 = some (kc.map u32) := (rfl)
theorem kc_len : (kc.map u32).length = 64 := (rfl)
theorem kc_take : List.take 64 (kc.map u32) = kc.map u32 := (rfl)
set_option maxHeartbeats 4000000 in
theorem f73 (s : V8) (b : List Int) (hb : b.length = 64) (cap : Option Nat) (hcap : CapOk cap 64) :
    Fun Tryd.prog tH 73 [.agg (s.l.map u32), .slc 0 0 1 64 cap] [(0, ⟨.view, b.map u8⟩)] 1 (.agg ((comp s b).l.map u32)) [] 1 := by
  refine fun_val none callH callH_ok chk73 (show 2 ≤ 116 by decide) (fun η => ren_u32 η _) ?_
  unfold sf73
  obtain ⟨a0, a1, a2, a3, a4, a5, a6, a7⟩ := s
  have hlen : (b.map u8).length = 64 := by simp [hb]
  have hfl := flat_u8 b
  have htk : List.take 64 (b.map u8) = b.map u8 := List.take_of_length_le (by omega)
  have hl64 := unI8_len hb
  have hcb : capB cap 64 = true := by
    cases cap with
    | none => rfl
    | some c => exact Nat.ble_eq_true_of_le (hcap c rfl)
  have hw := fun η l => ren_w η l
  have hsl : (List.map u32 (schI b 64)).length = 64 := by simp [schI_len]
  have hst : List.take 64 (List.map u32 (schI b 64)) = List.map u32 (schI b 64) := List.take_of_length_le (by omega)
  have rW : ∀ η, SV.renL η (List.map u32 (schI b 64)) = List.map u32 (schI b 64) := fun η => ren_w η _
  have rK : ∀ η, SV.renL η (List.map u32 kc) = List.map u32 kc := fun η => ren_w η _
  have rB : ∀ η, SV.renL η (List.map u8 b) = List.map u8 b := fun η => u8_ren η b
  have ru : ∀ η n, (u32 n).ren η = u32 n := fun _ _ => rfl
  have d64 : List.drop 64 (List.replicate 64 (SV.int .u32 0)) = [] := rfl
  generalize hRe : (fun t => V8.rounds (schI b 64) ⟨a0, a1, a2, a3, a4, a5, a6, a7⟩ t) = R
  have hR0 : R 0 = ⟨a0, a1, a2, a3, a4, a5, a6, a7⟩ := by rw [← hRe]; rfl
  generalize hW : List.map u32 (schI b 64) = W at *
  simp (config := { maxSteps := 1000000 }) only [callH, tab2, gSch, unI8_map, hlen, hfl, htk, hl64, hcb, V8.l, hW, look0, kc_len, kc_take, beq_self_eq_true, and_self, Nat.reduceBEq, lookF, reduceCtorEq, Nat.reduceEqDiff, Nat.reduceAdd, Nat.reduceSub, Nat.reduceLeDiff, Nat.reduceLT, Int.reduceToNat, Int.reduceLE, eq_self, Int.cast_ofNat_Int,  true_and, and_true, List.getElem?_cons_zero, List.getElem?_cons_succ, List.length_cons, List.length_nil, List.append_nil, List.nil_append, List.cons_append, List.take_succ_cons, List.take_zero, List.drop_succ_cons, List.drop_zero, List.take_nil, List.drop_nil, List.reverse_cons, List.reverse_nil, List.map_cons, List.map_nil, Nat.zero_add, Nat.add_zero, frOf, den_o0, den_o1, kont_app, den_reg, den_regW, den_W, evW, baseD, stBlk, touch, clear, untouched, updsW, List.contains_cons, List.contains_nil, Bool.or_false, Bool.or_self, Bool.or_true, den_seq, den_block, ↓reduceIte, ↓e_box, ↓e_load, ↓e_store, ↓e_arrAt, ↓e_mv, ↓e_new, ↓e_slcA, ↓e_call, ↓u_onOpt0, ↓u_onOpt1, Opd.ev, Sx.get, put, putO, del, dels, frD, memD, pickD, kills, views, newer, rd, upd, splice, SV.cells?, SV.one, ↓u_callS, canLW, canV, canC, belowL, apH, apH1, SV.ren, newOwn, targets, rms, Kind.isOwn, Nat.sub_zero, Nat.le_refl, Nat.mul_one, Int.cast_ofNat_Int]
  refine ⟨by rw [rW]; exact hsl, ?_⟩
  rw [rW]
  rw [den_loop]
  refine den_inv callH_ok (σ := Nat) (fun t => [(22, .int .i64 (t : Int)), (21, .agg (kc.map u32)), (7, .ptr 5 0), (6, .ptr 4 0), (5, .ptr 3 0), (4, .ptr 2 0), (2, .ptr 1 0)])
    (fun t => [(5, ⟨.own 123, [u32 (R t).e, u32 (R t).f, u32 (R t).g, u32 (R t).h]⟩), (4, ⟨.own 123, [u32 (R t).a, u32 (R t).b, u32 (R t).c, u32 (R t).d]⟩), (3, ⟨.own 121, W⟩),
      (2, ⟨.own 83, z8⟩), (1, ⟨.own 83, [u32 a0, u32 a1, u32 a2, u32 a3, u32 a4, u32 a5, u32 a6, u32 a7]⟩), (0, ⟨.view, b.map u8⟩)]) (fun _ => 6) (fun t => t ≤ 64) (fun t => 64 - t) 0 ?_ (Nat.zero_le _) ?_
  · refine ⟨[(0, 0), (1, 0), (2, 0), (3, 0), (4, 0), (5, 0)], ?_, ?_⟩
    · simp only [rW, ru, rB, hR0, hsl, z8, EntM, compat, apartM, keysBelow, eta, idHs, rd, SV.ren, SV.renL, Option.getD_some, List.getElem?_cons_zero, List.getElem?_cons_succ, List.length_cons, List.length_nil, Nat.zero_add, Nat.add_zero, Nat.reduceAdd, Nat.reduceSub, Nat.reduceEqDiff, Nat.reduceLT, Nat.reduceLeDiff, ↓reduceIte, Kind.isOwn, List.take_succ_cons, List.take_zero, List.nil_append, and_self, and_true, true_and, exists_eq_left', Option.some.injEq, List.drop_zero, List.take_length, Nat.le_refl, ne_eq, not_false_eq_true, implies_true, List.not_mem_nil, false_imp_iff, Bool.false_or, Bool.true_or, forall_const, reduceCtorEq, List.mem_cons, or_false, forall_eq_or_imp, forall_eq, Nat.succ_ne_self]
      refine (congrArg (W ++ ·) (List.drop_of_length_le ?_)).trans (List.append_nil W)
      exact Nat.le_refl 64
    · simp only [rK, frEnt, geto, eta, SV.ren, Option.getD_some, List.getElem?_cons_zero, List.getElem?_cons_succ, List.length_cons, List.length_nil, Nat.zero_add, Nat.add_zero, Nat.reduceAdd, Nat.reduceSub, Nat.reduceEqDiff, ↓reduceIte, and_self, and_true, Option.some.injEq, Nat.succ_ne_self]
      rfl
  · intro t ht
    by_cases h64 : t < 64
    · have c1 : (t : Int) < 64 := by omega
      have c2 : (0 : Int) ≤ (t : Int) := by omega
      have wt : IntKind.i64.wrap ((t : Int) + 1) = ((t + 1 : Nat) : Int) := by rw [wrap64_eq (by omega) (by omega)]; omega
      have gk : (List.map u32 kc)[t]? = some (u32 (kc.getD t 0)) := by
        have : kc.length = 64 := rfl
        simp [List.getD_eq_getElem?_getD, show t < kc.length by omega]
      have gw : W[t]? = some (u32 ((schI b 64).getD t 0)) := by
        rw [← hW]
        simp [List.getD_eq_getElem?_getD, schI_len, h64]
      have hR1 : R (t + 1) = (R t).round ((schI b 64).getD t 0) (kc.getD t 0) := by rw [← hRe]; rfl
      generalize hk : kc.getD t 0 = k at *
      generalize hwt : (schI b 64).getD t 0 = w at *
      rcases hRt : R t with ⟨a, bb, c, d, e, f, g, h⟩
      simp only
      have m1 : ∀ n, gMix [.int .u32 n, .int .i64 6, .int .i64 11, .int .i64 25] = some (.int .u32 (mixI n 6 11 25)) := fun n => rfl
      have m2 : ∀ n, gMix [.int .u32 n, .int .i64 2, .int .i64 13, .int .i64 22] = some (.int .u32 (mixI n 2 13 22)) := fun n => rfl
      simp (config := { maxSteps := 1000000 }) only [↓m1, ↓m2, c1, c2, gk, gw, wt, u32, SV.flatL, SV.flat, Bool.and_self, ↓u_callX, lookF, again_n, reduceCtorEq, Nat.reduceEqDiff, Nat.reduceAdd, Nat.reduceLeDiff, Int.reduceToNat, Int.reduceLT, Int.reduceLE, Int.reduceNeg, eq_self, decide_true, Int.cast_ofNat_Int,  true_and, List.getElem?_cons_zero, List.getElem?_cons_succ, List.length_cons, List.length_nil, List.append_nil, List.nil_append, List.cons_append, List.take_succ_cons, List.take_zero, List.drop_succ_cons, List.drop_zero, List.drop_nil, List.map_cons, List.map_nil, Nat.zero_add, Nat.add_zero, den_nil, den_o0, ↓gd_tt, den_o1, kont_app, den_skip, den_reg, den_regP, den_seq, den_cond, den_block, den_b, ↓reduceIte, ↓e_build, ↓e_load, ↓e_store, ↓e_idxV, ↓e_mv, ↓e_idxA, ↓e_bin, ↓e_un, ↓e_callp, ↓u_onInt, ↓u_binV, ↓binI, ↓fillE, Opd.ev, Sx.get, put, putO, del, dels, rd, upd, splice, SV.cells?, SV.one, ↓u_callS, Nat.le_refl, Int.toNat_natCast, Nat.mul_one, Int.cast_ofNat_Int]
      rw [hRt] at hR1
      refine ⟨t + 1, ⟨[(0, 0), (1, 0), (2, 0), (3, 0), (4, 0), (5, 0)], ?_, ?_⟩, by omega, by omega⟩
      · simp only [hR1, V8.round, addI, xorI, andI, notI, rW, rB, z8, EntM, compat, apartM, keysBelow, eta, idHs, rd, SV.ren, SV.renL, Option.getD_some, List.getElem?_cons_zero, List.getElem?_cons_succ, List.length_cons, List.length_nil, Nat.zero_add, Nat.add_zero, Nat.reduceAdd, Nat.reduceSub, Nat.reduceEqDiff, Nat.reduceLT, Nat.reduceLeDiff, ↓reduceIte, Kind.isOwn, List.take_succ_cons, List.take_zero, List.nil_append, and_self, true_and, exists_eq_left', Option.some.injEq, List.drop_zero, List.take_length, Nat.le_refl, ne_eq, not_false_eq_true, implies_true, List.not_mem_nil, false_imp_iff, Bool.false_or, Bool.true_or, forall_const, reduceCtorEq, List.mem_cons, or_false, forall_eq_or_imp, forall_eq, Nat.succ_ne_self]
      · simp only [rK, frEnt, geto, eta, SV.ren, Option.getD_some, List.getElem?_cons_zero, List.getElem?_cons_succ, List.length_cons, List.length_nil, Nat.zero_add, Nat.add_zero, Nat.reduceAdd, Nat.reduceSub, Nat.reduceEqDiff, ↓reduceIte, and_self, Nat.succ_ne_self]
    · obtain rfl : t = 64 := by omega
      rcases hRt : R 64 with ⟨a, bb, c, d, e, f, g, h⟩
      have hcomp : comp ⟨a0, a1, a2, a3, a4, a5, a6, a7⟩ b = V8.add ⟨a0, a1, a2, a3, a4, a5, a6, a7⟩ ⟨a, bb, c, d, e, f, g, h⟩ := by
        unfold comp; rw [← hRt, ← hRe]
      simp only
      simp (config := { maxSteps := 1000000 }) only [u32, again_x, Nat.reduceEqDiff, Int.reduceLT, eq_self, decide_false, Int.cast_ofNat_Int,  true_and, den_nil, den_o0, ↓gd_ft, den_o1, kont_app, den_reg, den_seq, den_cond, den_block, den_exit, den_xb, den_xc, ↓reduceIte, ↓e_mv, ↓e_bin, ↓u_binV, ↓binI, Opd.ev, Sx.get, put, putO, del, dels, Int.cast_ofNat_Int]
      rw [den_loop]
      refine den_unroll callH_ok (callT_point _ _) 5 ?_
      simp (config := { maxSteps := 1000000 }) only [z8, hcomp, V8.add, addI, and_self, reduceCtorEq, Nat.reduceEqDiff, Nat.reduceAdd, Nat.reduceLeDiff, Int.reduceToNat, Int.reduceLT, Int.reduceLE, Int.reduceAdd, Int.reduceNeg, wrap64, eq_self, decide_true, decide_false, Int.cast_ofNat_Int, List.getElem?_cons_zero, List.getElem?_cons_succ, List.length_cons, List.length_nil, List.append_nil, List.nil_append, List.cons_append, List.take_succ_cons, List.take_zero, List.drop_succ_cons, List.drop_zero, List.take_nil, List.drop_nil, List.map_cons, List.map_nil, Nat.zero_add, Nat.add_zero, den_nil, den_o0, ↓gd_tt, ↓gd_ft, den_o1, kont_app, den_skip, den_reg, den_regP, den_seq, den_cond, den_block, den_exit, den_ret, den_b, den_xb, den_xc, den_xu, den_u, finP_r, ↓reduceIte, ↓e_load, ↓e_store, ↓e_mv, ↓e_idxA, ↓e_bin, ↓u_onInt, ↓u_binV, ↓binI, ↓evRes, Opd.ev, Sx.get, put, putO, del, dels, rd, upd, splice, SV.cells?, SV.one, retOf, Nat.le_refl, Nat.mul_one, Int.cast_ofNat_Int]
end Go.Proofs.YtkfbkooobfepeaaDoor

/- SHA-256 of package hash: compress, as a contract by value. -/
namespace Go.Proofs.YtkfbkooobfepeaaDoor
open Go Go.Sx Sf
set_option maxRecDepth 100000
set_option linter.unusedSimpArgs false
set_option linter.unusedVariables false
def g73 : GS
  | [.agg [.int .u32 a, .int .u32 b, .int .u32 c, .int .u32 d, .int .u32 e, .int .u32 f, .int .u32 g, .int .u32 h], .slc 0 0 1 64 cap], [(0, ⟨.view, cells⟩)] => match unI8 cells with
    | some bl => match Nat.beq bl.length 64, capB cap 64 with
      | true, true => some (.agg ((comp ⟨a, b, c, d, e, f, g, h⟩ bl).l.map u32), [], 1)
      | _, _ => none
    | none => none
  | _, _ => none
theorem g73_ok : FunS Tryd.prog tH 73 g73 := by
  intro a0 m0 r m1 n1 hh
  unfold g73 at hh
  split at hh
  · rename_i a b c d e f g h cap cells
    split at hh
    · rename_i bl hb
      split at hh
      · rename_i h1 h2
        cases hh
        rw [unI8_some hb]
        exact ⟨f73 ⟨a, b, c, d, e, f, g, h⟩ bl (Nat.eq_of_beq_eq_true h1) cap (capB_ok h2), by simp [freshB]⟩
      · cases hh
    · cases hh
  · cases hh
end Go.Proofs.YtkfbkooobfepeaaDoor

/- The sanity of the laws: true. -/
namespace Go.Proofs.YtkfbkooobfepeaaDoor
open Go Go.Sx Sf
set_option maxRecDepth 100000
theorem sane_run : runF tb tH (runS [(73, g73)]) 300 30 9 [] [] 0 = some (.bool true, [], 0) := by kernel_rfl
theorem sane_x : runS [(73, g73)] 9 [] [] 0 = none := rfl
theorem f9 : Fun Tryd.prog tH 9 [] [] 0 (.bool true) [] 0 :=
  fun_of_run tb_ok (runS_ok (fun x h => by simp only [List.mem_singleton] at h; subst h; exact g73_ok)) sane_x sane_run
def gSane : GS
  | [], [] => some (.bool true, [], 0)
  | _, _ => none
theorem gSane_ok : FunS Tryd.prog tH 9 gSane := by
  intro a0 m0 r m1 n1 h
  unfold gSane at h
  split at h
  · cases h; exact ⟨f9, by simp [freshB]⟩
  · cases h
end Go.Proofs.YtkfbkooobfepeaaDoor

/- The reference's Valid, and Same. -/
namespace Go.Proofs.YtkfbkooobfepeaaDoor
open Go Go.Sx Sf
set_option maxRecDepth 100000
set_option linter.unusedVariables false
variable {tS : List (Nat × List SV)}
theorem fold_keys' {α : Type} (f : α → KV) : ∀ (l : List α) (ks : List KV), (∀ x ∈ l, f x ∉ ks) → (l.map f).Nodup → (l.foldl (fun ks m => insK ks (f m)) ks).length = ks.length + l.length
  | [], ks, _, _ => by simp
  | a :: l, ks, h1, h2 => by
    simp only [List.map_cons, List.nodup_cons] at h2
    have hn := h1 a List.mem_cons_self
    have hl := insK_len ks (f a)
    rw [if_neg hn] at hl
    simp only [List.foldl_cons, List.length_cons]
    rw [fold_keys' f l (insK ks (f a)) ?_ h2.2]
    · omega
    · intro x hx hm
      rcases mem_insK.1 hm with h | h
      · exact h1 x (List.mem_cons_of_mem _ hx) h
      · exact h2.1 (by rw [← h]; exact List.mem_map_of_mem hx)
def numsOk (e n : Int) (len : Nat) : Prop := 1 ≤ n ∧ n ≤ (len : Int) ∧ len ≤ 16 ∧ 0 ≤ e ∧ e ≤ 2147483646
def Diff (l : List Mb) : Prop := ∀ (k i : Nat) (a b : Mb), k < i → l[k]? = some a → l[i]? = some b → a.name ≠ b.name ∧ a.pub ≠ b.pub
theorem validB_iff {e n : Int} {l : List Mb} : validB e n l = true ↔ (∀ m ∈ l, okM m = true) ∧ numsOk e n l.length ∧ Diff l := by
  unfold validB numsOk
  simp only [Bool.and_eq_true, List.all_eq_true, beq_iff_eq, decide_eq_true_eq]
  constructor
  · rintro ⟨h1, h2, h3, h4, h5, h6, h7, h8⟩
    refine ⟨h1, ⟨h4, h5, h6, h7, h8⟩, ?_⟩
    have n1 := ((fold_keys (fun m : Mb => KV.str m.name) l []).2 (by simpa [namesK] using h2)).2
    have n2 := ((fold_keys (fun m : Mb => KV.arr m.pub) l []).2 (by simpa [pubsK] using h3)).2
    rw [List.Nodup, List.pairwise_iff_getElem] at n1 n2
    intro k i a b hk ha hb
    obtain ⟨hk', rfl⟩ := List.getElem?_eq_some_iff.1 ha
    obtain ⟨hi', rfl⟩ := List.getElem?_eq_some_iff.1 hb
    have m1 := n1 k i (by simpa using hk') (by simpa using hi') hk
    have m2 := n2 k i (by simpa using hk') (by simpa using hi') hk
    exact ⟨fun h => m1 (by simp [h]), fun h => m2 (by simp [h])⟩
  · rintro ⟨h1, ⟨h4, h5, h6, h7, h8⟩, hD⟩
    have n1 : (l.map fun m => KV.str m.name).Nodup := by
      rw [List.Nodup, List.pairwise_iff_getElem]
      intro k i hk hi hki heq
      simp only [List.length_map] at hk hi
      simp only [List.getElem_map, KV.str.injEq] at heq
      exact (hD k i _ _ hki (List.getElem?_eq_getElem hk) (List.getElem?_eq_getElem hi)).1 heq
    have n2 : (l.map fun m => KV.arr m.pub).Nodup := by
      rw [List.Nodup, List.pairwise_iff_getElem]
      intro k i hk hi hki heq
      simp only [List.length_map] at hk hi
      simp only [List.getElem_map, KV.arr.injEq] at heq
      exact (hD k i _ _ hki (List.getElem?_eq_getElem hk) (List.getElem?_eq_getElem hi)).2 heq
    have k1 := fold_keys' (fun m : Mb => KV.str m.name) l [] (by simp) n1
    have k2 := fold_keys' (fun m : Mb => KV.arr m.pub) l [] (by simp) n2
    exact ⟨h1, by simpa [namesK] using k1, by simpa [pubsK] using k2, h4, h5, h6, h7, h8⟩
theorem validB_false {e n : Int} {l : List Mb} (h : ¬ ((∀ m ∈ l, okM m = true) ∧ numsOk e n l.length ∧ Diff l)) : validB e n l = false := by
  cases hv : validB e n l with
  | false => rfl
  | true => exact absurd (validB_iff.1 hv) h
theorem eq_pub {a b : List UInt8} (ha : a.length = 16) (hb : b.length = 16) :
    eqPat [.i .u8, .i .u8, .i .u8, .i .u8, .i .u8, .i .u8, .i .u8, .i .u8, .i .u8, .i .u8, .i .u8, .i .u8, .i .u8, .i .u8, .i .u8, .i .u8] (bys a) (bys b) = some (a == b) := by
  have h1 := eqPat_bys a b [] [] [] true (by rw [ha, hb]) rfl
  rw [ha] at h1
  simp only [List.append_nil, Bool.and_true] at h1
  exact h1
set_option maxHeartbeats 8000000 in
theorem f13 (e n : Int) (l : List Mb) (hP : Pub l) (hl : l.length ≤ 9223372036854775807) (cap : Option Nat) :
    Fun Tryd.prog tS 13 [.agg [.int .i64 e, .int .i64 n, .slc 0 0 18 l.length cap]] [(0, ⟨.view, mcs l⟩)] 1 (.bool (validB e n l)) [] 1 := by
  refine fun_any none cF cF_ok chk13 (show 1 ≤ 92 by decide) (by decide) ?_
  unfold sf13
  have hlen := len_mcs hP
  by_cases a1 : (l.length : Int) < 1
  · have hv : validB e n l = false := validB_false (by rintro ⟨_, ⟨_, _, _, _, _⟩, _⟩; omega)
    simp (config := { maxSteps := 1000000 }) only [a1, hv, undef, setv, reduceCtorEq, Nat.reduceEqDiff, Nat.reduceAdd, eq_self, decide_true,  true_and, and_true, List.getElem?_cons_zero, List.getElem?_cons_succ, Nat.zero_add, frOf, den_nil, den_o0, ↓gd_tt, ↓gd_tf, den_o1, kont_app, den_g, setv, Bool.not_false, den_reg, Bool.not_false, den_seq, den_cond, den_ret, den_rc, finE_r, ↓reduceIte, ↓e_box, ↓e_load, ↓e_mv, ↓e_pick, ↓e_fld, ↓e_bin, ↓e_len, ↓u_binV, ↓binI, ↓evRes, Opd.ev, Sx.get, put, putO, del, dels, rd, SV.cells?, retOf, SV.ren]
    exact ⟨[(0, 0)], rfl, by simp [compat, apartM, keysBelow, idHs, List.take_succ_cons, List.nil_append, List.take_nil, and_self]⟩
  by_cases a2 : (l.length : Int) > 16
  · have hv : validB e n l = false := validB_false (by rintro ⟨_, ⟨_, _, _, _, _⟩, _⟩; omega)
    simp (config := { maxSteps := 1000000 }) only [a1, a2, hv, undef, setv, reduceCtorEq, Nat.reduceEqDiff, Nat.reduceAdd, eq_self, decide_true, decide_false,  true_and, and_true, List.getElem?_cons_zero, List.getElem?_cons_succ, Nat.zero_add, frOf, den_nil, den_o0, ↓gd_tt, ↓gd_ff, ↓gd_tf, ↓gd_ft, den_o1, kont_app, den_g, setv, Bool.not_false, den_reg, Bool.not_false, den_seq, den_cond, den_ret, den_rc, finE_r, ↓reduceIte, ↓e_box, ↓e_load, ↓e_mv, ↓e_pick, ↓e_fld, ↓e_bin, ↓e_len, ↓u_binV, ↓binI, ↓evRes, Opd.ev, Sx.get, put, putO, del, dels, rd, SV.cells?, retOf, SV.ren]
    exact ⟨[(0, 0)], rfl, by simp [compat, apartM, keysBelow, idHs, List.take_succ_cons, List.nil_append, List.take_nil, and_self]⟩
  by_cases a3 : n < 1
  · have hv : validB e n l = false := validB_false (by rintro ⟨_, ⟨_, _, _, _, _⟩, _⟩; omega)
    simp (config := { maxSteps := 1000000 }) only [a1, a2, a3, hv, undef, setv, reduceCtorEq, Nat.reduceEqDiff, Nat.reduceAdd, eq_self, decide_true, decide_false,  true_and, and_true, List.getElem?_cons_zero, List.getElem?_cons_succ, Nat.zero_add, frOf, den_nil, den_o0, ↓gd_tt, ↓gd_ff, ↓gd_tf, ↓gd_ft, den_o1, kont_app, den_g, setv, Bool.not_false, den_reg, Bool.not_false, den_seq, den_cond, den_ret, den_rc, finE_r, ↓reduceIte, ↓e_box, ↓e_load, ↓e_mv, ↓e_pick, ↓e_fld, ↓e_bin, ↓e_len, ↓u_binV, ↓binI, ↓evRes, Opd.ev, Sx.get, put, putO, del, dels, rd, SV.cells?, retOf, SV.ren]
    exact ⟨[(0, 0)], rfl, by simp [compat, apartM, keysBelow, idHs, List.take_succ_cons, List.nil_append, List.take_nil, and_self]⟩
  by_cases a4 : n > (l.length : Int)
  · have hv : validB e n l = false := validB_false (by rintro ⟨_, ⟨_, _, _, _, _⟩, _⟩; omega)
    simp (config := { maxSteps := 1000000 }) only [a1, a2, a3, a4, hv, undef, setv, reduceCtorEq, Nat.reduceEqDiff, Nat.reduceAdd, eq_self, decide_true, decide_false,  true_and, and_true, List.getElem?_cons_zero, List.getElem?_cons_succ, Nat.zero_add, frOf, den_nil, den_o0, ↓gd_tt, ↓gd_ff, ↓gd_tf, ↓gd_ft, den_o1, kont_app, den_g, setv, Bool.not_false, den_reg, Bool.not_false, den_seq, den_cond, den_ret, den_rc, finE_r, ↓reduceIte, ↓e_box, ↓e_load, ↓e_mv, ↓e_pick, ↓e_fld, ↓e_bin, ↓e_len, ↓u_binV, ↓binI, ↓evRes, Opd.ev, Sx.get, put, putO, del, dels, rd, SV.cells?, retOf, SV.ren]
    exact ⟨[(0, 0)], rfl, by simp [compat, apartM, keysBelow, idHs, List.take_succ_cons, List.nil_append, List.take_nil, and_self]⟩
  by_cases a5 : e < 0
  · have hv : validB e n l = false := validB_false (by rintro ⟨_, ⟨_, _, _, _, _⟩, _⟩; omega)
    simp (config := { maxSteps := 1000000 }) only [a1, a2, a3, a4, a5, hv, undef, setv, reduceCtorEq, Nat.reduceEqDiff, Nat.reduceAdd, eq_self, decide_true, decide_false,  true_and, and_true, List.getElem?_cons_zero, List.getElem?_cons_succ, Nat.zero_add, Nat.add_zero, frOf, den_nil, den_o0, ↓gd_tt, ↓gd_ff, ↓gd_tf, ↓gd_ft, den_o1, kont_app, den_g, setv, Bool.not_false, den_reg, Bool.not_false, den_seq, den_cond, den_ret, den_rc, finE_r, ↓reduceIte, ↓e_box, ↓e_load, ↓e_mv, ↓e_pick, ↓e_fld, ↓e_bin, ↓e_len, ↓u_binV, ↓binI, ↓evRes, Opd.ev, Sx.get, put, putO, del, dels, rd, SV.cells?, retOf, SV.ren]
    exact ⟨[(0, 0)], rfl, by simp [compat, apartM, keysBelow, idHs, List.take_succ_cons, List.nil_append, List.take_nil, and_self]⟩
  by_cases a6 : e > 2147483646
  · have hv : validB e n l = false := validB_false (by rintro ⟨_, ⟨_, _, _, _, _⟩, _⟩; omega)
    simp (config := { maxSteps := 1000000 }) only [a1, a2, a3, a4, a5, a6, hv, setv, reduceCtorEq, Nat.reduceEqDiff, Nat.reduceAdd, eq_self, decide_true, decide_false,  true_and, and_true, List.getElem?_cons_zero, List.getElem?_cons_succ, Nat.zero_add, Nat.add_zero, frOf, den_nil, den_o0, ↓gd_tt, ↓gd_ff, ↓gd_ft, den_o1, kont_app, den_g, setv, den_reg, den_seq, den_cond, den_ret, den_rc, finE_r, ↓reduceIte, ↓e_box, ↓e_load, ↓e_mv, ↓e_pick, ↓e_fld, ↓e_bin, ↓e_len, ↓u_binV, ↓binI, ↓evRes, Opd.ev, Sx.get, put, putO, del, dels, rd, SV.cells?, retOf, SV.ren]
    exact ⟨[(0, 0)], rfl, by simp [compat, apartM, keysBelow, idHs, List.take_succ_cons, List.nil_append, List.take_nil, and_self]⟩
  simp (config := { maxSteps := 1000000 }) only [a1, a2, a3, a4, a5, a6, setv, reduceCtorEq, Nat.reduceEqDiff, Nat.reduceAdd, eq_self, decide_false,  true_and, List.getElem?_cons_zero, List.getElem?_cons_succ, Nat.zero_add, Nat.add_zero, frOf, den_o0, ↓gd_ff, ↓gd_ft, den_o1, kont_app, den_g, setv, den_skip, den_reg, den_seq, den_cond, den_block, ↓reduceIte, ↓e_box, ↓e_load, ↓e_mv, ↓e_pick, ↓e_fld, ↓e_bin, ↓e_len, ↓u_binV, ↓binI, Opd.ev, Sx.get, put, putO, del, dels, rd, SV.cells?]
  rw [den_loop]
  refine den_inv cF_ok (σ := Nat) (fun i => [(4, .int .i64 (i : Int)), (3, .int .i64 (l.length : Int)), (1, .ptr 1 0)])
    (fun i => [(1, ⟨.own 24, [.int .i64 e, .int .i64 n, .slc 0 0 18 l.length cap]⟩), (0, ⟨.view, mcs l⟩)]) (fun _ => 2)
    (fun i => i ≤ l.length ∧ (∀ (j : Nat) m, j < i → l[j]? = some m → okM m = true) ∧ (∀ (k j : Nat) (a b : Mb), j < i → k < j → l[k]? = some a → l[j]? = some b → a.name ≠ b.name ∧ a.pub ≠ b.pub)) (fun i => l.length - i) 0 ?_
    ⟨Nat.zero_le _, fun j m h => by omega, fun k j a b h => by omega⟩ ?_
  · exact ⟨[(0, 0), (1, 0)], by simp [ren_mcs, EntM, compat, apartM, keysBelow, eta, idHs, rd, SV.ren, SV.renL, Option.getD_some, List.length_cons, List.length_nil, Nat.zero_add, Nat.add_zero, Nat.reduceAdd, Nat.reduceLeDiff, ↓reduceIte, Kind.isOwn, List.take_succ_cons, List.take_zero, List.nil_append, and_self, true_and, exists_eq_left', Option.some.injEq, List.drop_zero, List.take_length, ne_eq, not_false_eq_true, implies_true, List.not_mem_nil, Bool.false_or, Bool.true_or, forall_const, List.mem_cons, or_false, forall_eq, Nat.succ_ne_self], by simp [frEnt, geto, eta, SV.ren, Option.getD_some, List.length_cons, List.length_nil, Nat.zero_add, Nat.add_zero, Nat.reduceAdd, Nat.reduceEqDiff, Nat.reduceLeDiff, ↓reduceIte, and_self, Nat.succ_ne_self]⟩
  rintro i ⟨hi, hok, hdf⟩
  by_cases h : i < l.length
  · have c1 : (i : Int) < (l.length : Int) := by omega
    have c2 : (0 : Int) ≤ (i : Int) := by omega
    have wi : IntKind.i64.wrap ((i : Int) + 1) = ((i + 1 : Nat) : Int) := by rw [wrap64_eq (by omega) (by omega)]; omega
    have q1 : i * 18 < l.length * 18 := by omega
    have q2 : i * 18 + 18 ≤ l.length * 18 := by omega
    obtain ⟨m, hm⟩ : ∃ m, l[i]? = some m := ⟨_, List.getElem?_eq_getElem h⟩
    have hmem := List.mem_of_getElem? hm
    have h16 := hP m hmem
    have g18 := take_row hP hm
    have ml := Mb.sv_len h16
    have m0 := mb0 m
    have m17 := mb17 h16
    have mp := mbpub h16
    have hbad : okM m = false → validB e n l = false := fun hb => validB_false (by rintro ⟨h1, _⟩; rw [h1 m hmem] at hb; cases hb)
    generalize hsv : m.sv = sv at *
    by_cases hb1 : m.name.length < 1
    · have d1 : (m.name.length : Int) < 1 := by omega
      have hv := hbad (by simp [okM, hb1])
      simp (config := { maxSteps := 1000000 }) only [c1, c2, q1, q2, hlen, g18, ml, m0, d1, hv, undef, setv, again_r, reduceCtorEq, Nat.reduceEqDiff, Nat.reduceAdd, eq_self, decide_true,  true_and, and_true, List.getElem?_cons_zero, List.getElem?_cons_succ, List.length_cons, List.length_nil, List.append_nil, List.nil_append, List.take_zero, List.drop_succ_cons, List.drop_nil, List.map_cons, List.map_nil, Nat.zero_add, Nat.add_zero, den_nil, den_o0, ↓gd_tt, ↓gd_tf, den_o1, kont_app, den_g, setv, Bool.not_false, den_skip, den_reg, Bool.not_false, den_seq, den_cond, den_block, den_ret, den_rb, den_rc, finE_r, ↓reduceIte, ↓e_load, ↓e_store, ↓e_idxS, ↓e_mv, ↓e_pick, ↓e_new, ↓e_fld, ↓e_bin, ↓e_len, ↓u_binV, ↓binI, ↓evRes, Opd.ev, Sx.get, put, putO, del, dels, rd, upd, splice, SV.cells?, retOf, SV.ren, Nat.le_refl, Int.toNat_natCast]
      exact ⟨[(0, 0)], rfl, by simp [compat, apartM, keysBelow, idHs, List.take_succ_cons, List.nil_append, List.take_nil, and_self]⟩
    have d1 : ¬ (m.name.length : Int) < 1 := by omega
    by_cases hb2 : m.name.length > 12
    · have d2 : (m.name.length : Int) > 12 := by omega
      have hv := hbad (by simp [okM, hb2])
      simp (config := { maxSteps := 1000000 }) only [c1, c2, q1, q2, hlen, g18, ml, m0, d1, d2, hv, undef, setv, again_r, reduceCtorEq, Nat.reduceEqDiff, Nat.reduceAdd, eq_self, decide_true, decide_false,  true_and, and_true, List.getElem?_cons_zero, List.getElem?_cons_succ, List.length_cons, List.length_nil, List.append_nil, List.nil_append, List.take_zero, List.drop_succ_cons, List.drop_nil, List.map_cons, List.map_nil, Nat.zero_add, Nat.add_zero, den_nil, den_o0, ↓gd_tt, ↓gd_ff, ↓gd_tf, ↓gd_ft, den_o1, kont_app, den_g, setv, Bool.not_false, den_skip, den_reg, Bool.not_false, den_seq, den_cond, den_block, den_ret, den_rb, den_rc, finE_r, ↓reduceIte, ↓e_load, ↓e_store, ↓e_idxS, ↓e_mv, ↓e_pick, ↓e_new, ↓e_fld, ↓e_bin, ↓e_len, ↓u_binV, ↓binI, ↓evRes, Opd.ev, Sx.get, put, putO, del, dels, rd, upd, splice, SV.cells?, retOf, SV.ren, Nat.le_refl, Int.toNat_natCast]
      exact ⟨[(0, 0)], rfl, by simp [compat, apartM, keysBelow, idHs, List.take_succ_cons, List.nil_append, List.take_nil, and_self]⟩
    have d2 : ¬ (m.name.length : Int) > 12 := by omega
    by_cases d3 : m.h < 0
    · have hv := hbad (by simp [okM, d3])
      simp (config := { maxSteps := 1000000 }) only [c1, c2, q1, q2, hlen, g18, ml, m0, m17, d1, d2, d3, hv, undef, setv, again_r, reduceCtorEq, Nat.reduceEqDiff, Nat.reduceAdd, eq_self, decide_true, decide_false,  true_and, and_true, List.getElem?_cons_zero, List.getElem?_cons_succ, List.length_cons, List.length_nil, List.append_nil, List.nil_append, List.take_zero, List.drop_succ_cons, List.drop_nil, List.map_cons, List.map_nil, Nat.zero_add, Nat.add_zero, den_nil, den_o0, ↓gd_tt, ↓gd_ff, ↓gd_tf, ↓gd_ft, den_o1, kont_app, den_g, setv, Bool.not_false, den_skip, den_reg, Bool.not_false, den_seq, den_cond, den_block, den_ret, den_rb, den_rc, finE_r, ↓reduceIte, ↓e_load, ↓e_store, ↓e_idxS, ↓e_mv, ↓e_pick, ↓e_new, ↓e_fld, ↓e_bin, ↓e_len, ↓u_binV, ↓binI, ↓evRes, Opd.ev, Sx.get, put, putO, del, dels, rd, upd, splice, SV.cells?, retOf, SV.ren, Nat.le_refl, Int.toNat_natCast]
      exact ⟨[(0, 0)], rfl, by simp [compat, apartM, keysBelow, idHs, List.take_succ_cons, List.nil_append, List.take_nil, and_self]⟩
    by_cases d4 : m.h > 6
    · have hv := hbad (by simp [okM, d4])
      simp (config := { maxSteps := 1000000 }) only [c1, c2, q1, q2, hlen, g18, ml, m0, m17, d1, d2, d3, d4, hv, setv, again_r, reduceCtorEq, Nat.reduceEqDiff, Nat.reduceAdd, eq_self, decide_true, decide_false,  true_and, and_true, List.getElem?_cons_zero, List.getElem?_cons_succ, List.length_cons, List.length_nil, List.append_nil, List.nil_append, List.take_zero, List.drop_succ_cons, List.drop_nil, List.map_cons, List.map_nil, Nat.zero_add, Nat.add_zero, den_nil, den_o0, ↓gd_tt, ↓gd_ff, ↓gd_ft, den_o1, kont_app, den_g, setv, den_skip, den_reg, den_seq, den_cond, den_block, den_ret, den_rb, den_rc, finE_r, ↓reduceIte, ↓e_load, ↓e_store, ↓e_idxS, ↓e_mv, ↓e_pick, ↓e_new, ↓e_fld, ↓e_bin, ↓e_len, ↓u_binV, ↓binI, ↓evRes, Opd.ev, Sx.get, put, putO, del, dels, rd, upd, splice, SV.cells?, retOf, SV.ren, Nat.le_refl, Int.toNat_natCast]
      exact ⟨[(0, 0)], rfl, by simp [compat, apartM, keysBelow, idHs, List.take_succ_cons, List.nil_append, List.take_nil, and_self]⟩
    have hokm : okM m = true := by simp [okM, hb1, hb2, d3, d4]
    simp (config := { maxSteps := 1000000 }) only [c1, c2, q1, q2, hlen, g18, ml, m0, m17, d1, d2, d3, d4, setv, reduceCtorEq, Nat.reduceEqDiff, Nat.reduceAdd, eq_self, decide_true, decide_false,  true_and, List.getElem?_cons_zero, List.getElem?_cons_succ, List.length_cons, List.length_nil, List.append_nil, List.nil_append, List.take_zero, List.drop_succ_cons, List.drop_nil, List.map_cons, List.map_nil, Nat.zero_add, Nat.add_zero, den_o0, ↓gd_tt, ↓gd_ff, ↓gd_ft, den_o1, kont_app, den_g, setv, den_skip, den_reg, den_seq, den_cond, den_block, ↓reduceIte, ↓e_load, ↓e_store, ↓e_idxS, ↓e_mv, ↓e_pick, ↓e_new, ↓e_fld, ↓e_bin, ↓e_len, ↓u_binV, ↓binI, Opd.ev, Sx.get, put, putO, del, dels, rd, upd, splice, SV.cells?, Nat.le_refl, Int.toNat_natCast]
    rw [den_loop]
    have hrsv : ∀ η, SV.renL η sv = sv := fun η => by rw [← hsv]; exact ren_mb η m
    refine den_inv cF_ok (σ := Nat) (fun k => [(6, .int .i64 (k : Int)), (5, .ptr 2 0), (4, .int .i64 (i : Int)), (3, .int .i64 (l.length : Int)), (1, .ptr 1 0)])
      (fun k => [(2, ⟨.own 47, sv⟩), (1, ⟨.own 24, [.int .i64 e, .int .i64 n, .slc 0 0 18 l.length cap]⟩), (0, ⟨.view, mcs l⟩)]) (fun _ => 3)
      (fun k => k ≤ i ∧ (∀ (q : Nat) (a : Mb), q < k → l[q]? = some a → a.name ≠ m.name ∧ a.pub ≠ m.pub)) (fun k => i - k) 0 ?_ ⟨Nat.zero_le _, fun q a h => by omega⟩ ?_
    · exact ⟨[(0, 0), (1, 0), (2, 0)], by simp [ren_mcs, hrsv, EntM, compat, apartM, keysBelow, eta, idHs, rd, SV.ren, SV.renL, Option.getD_some, List.length_cons, List.length_nil, Nat.zero_add, Nat.add_zero, Nat.reduceAdd, Nat.reduceLT, Nat.reduceLeDiff, ↓reduceIte, Kind.isOwn, List.take_succ_cons, List.take_zero, List.nil_append, and_self, true_and, exists_eq_left', Option.some.injEq, List.drop_zero, List.take_length, ne_eq, not_false_eq_true, implies_true, List.not_mem_nil, Bool.false_or, Bool.true_or, forall_const, reduceCtorEq, List.mem_cons, or_false, forall_eq_or_imp, forall_eq, Nat.succ_ne_self], by simp [frEnt, geto, eta, SV.ren, Option.getD_some, List.length_cons, List.length_nil, Nat.zero_add, Nat.add_zero, Nat.reduceAdd, Nat.reduceEqDiff, Nat.reduceLT, Nat.reduceLeDiff, ↓reduceIte, and_self, Nat.succ_ne_self]⟩
    rintro k ⟨hk, hne⟩
    by_cases hki : k < i
    · have e1 : (k : Int) < (i : Int) := by omega
      have e1' : (k : Int) < (l.length : Int) := by omega
      have e2 : (0 : Int) ≤ (k : Int) := by omega
      have wk : IntKind.i64.wrap ((k : Int) + 1) = ((k + 1 : Nat) : Int) := by rw [wrap64_eq (by omega) (by omega)]; omega
      have r1 : k * 18 < l.length * 18 := by omega
      have r2 : k * 18 + 1 + 16 ≤ l.length * 18 := by omega
      obtain ⟨x, hx⟩ : ∃ x, l[k]? = some x := ⟨_, List.getElem?_eq_getElem (by omega)⟩
      have hx16 := hP x (List.mem_of_getElem? hx)
      have gn : (mcs l)[k * 18]? = some (.str x.name) := cell_row hP hx (k := 0) (by decide)
      have gp : List.take 16 (List.drop (k * 18 + 1) (mcs l)) = bys x.pub := by
        have := take_row hP hx
        have h2 := mbpub hx16
        rw [← this, List.drop_take, List.take_take, List.drop_drop] at h2
        rw [← h2]
        congr 1
      have hbd : x.name = m.name ∨ x.pub = m.pub → validB e n l = false := fun hh => validB_false (by
        rintro ⟨_, _, hD⟩
        have := hD k i x m hki hx hm
        rcases hh with hh | hh
        · exact this.1 hh
        · exact this.2 hh)
      have hep := eq_pub hx16 h16
      by_cases hn : x.name = m.name
      · have hv := hbd (.inl hn)
        have hq : (x.name == m.name) = true := by simpa using hn
        simp (config := { maxSteps := 1000000 }) only [e1, e1', e2, r1, hlen, gn, m0, hq, hv, undef, setv, again_r, reduceCtorEq, Nat.reduceEqDiff, eq_self, decide_true,  true_and, and_true, List.getElem?_cons_zero, List.getElem?_cons_succ, Nat.zero_add, Nat.add_zero, den_nil, den_o0, ↓gd_tt, ↓gd_tf, den_o1, kont_app, den_g, setv, Bool.not_false, den_skip, den_reg, den_regP, Bool.not_false, den_seq, den_cond, den_block, den_ret, den_rb, den_rc, finE_r, ↓reduceIte, ↓e_load, ↓e_idxS, ↓e_mv, ↓e_pick, ↓e_fld, ↓e_bin, ↓u_binV, ↓binI, ↓binS, ↓evRes, Opd.ev, Sx.get, put, putO, del, dels, rd, retOf, SV.ren, Int.toNat_natCast]
        exact ⟨[(0, 0)], rfl, by simp [compat, apartM, keysBelow, idHs, List.take_succ_cons, List.nil_append, List.take_nil, and_self]⟩
      · have hq : (x.name == m.name) = false := by simpa using hn
        by_cases hp : x.pub = m.pub
        · have hv := hbd (.inr hp)
          have hq2 : (x.pub == m.pub) = true := by simpa using hp
          rw [hq2] at hep
          simp (config := { maxSteps := 1000000 }) only [e1, e1', e2, r1, r2, hlen, gn, gp, m0, ml, mp, hq, ↓hep, hv, setv, again_r, reduceCtorEq, Nat.reduceEqDiff, Nat.reduceAdd, Nat.reduceLeDiff, eq_self, decide_true,  true_and, and_true, List.getElem?_cons_zero, List.getElem?_cons_succ, Nat.zero_add, Nat.add_zero, den_nil, den_o0, ↓gd_tt, ↓gd_ff, ↓gd_ft, den_o1, kont_app, den_g, setv, den_skip, den_reg, den_regP, den_seq, den_cond, den_block, den_ret, den_rb, den_rc, finE_r, ↓reduceIte, ↓e_load, ↓e_idxS, ↓e_eqv, ↓e_mv, ↓e_pick, ↓e_fld, ↓e_bin, ↓u_binV, ↓binI, ↓binS, ↓evRes, Opd.ev, Sx.get, put, putO, del, dels, rd, retOf, SV.ren, Int.toNat_natCast]
          exact ⟨[(0, 0)], rfl, by simp [compat, apartM, keysBelow, idHs, List.take_succ_cons, List.nil_append, List.take_nil, and_self]⟩
        · have hq2 : (x.pub == m.pub) = false := by simpa using hp
          rw [hq2] at hep
          simp (config := { maxSteps := 1000000 }) only [e1, e1', e2, r1, r2, wk, hlen, gn, gp, m0, ml, mp, hq, ↓hep, setv, again_n, reduceCtorEq, Nat.reduceEqDiff, Nat.reduceAdd, Nat.reduceLeDiff, eq_self, decide_true,  true_and, List.getElem?_cons_zero, List.getElem?_cons_succ, Nat.zero_add, Nat.add_zero, den_nil, den_o0, ↓gd_tt, ↓gd_ff, ↓gd_ft, den_o1, kont_app, den_g, setv, den_skip, den_reg, den_regP, den_seq, den_cond, den_block, den_b, ↓reduceIte, ↓e_load, ↓e_idxS, ↓e_eqv, ↓e_mv, ↓e_pick, ↓e_fld, ↓e_bin, ↓u_binV, ↓binI, ↓binS, Opd.ev, Sx.get, put, putO, del, dels, rd, Int.toNat_natCast]
          refine ⟨k + 1, ⟨[(0, 0), (1, 0), (2, 0)], by simp [ren_mcs, hrsv, EntM, compat, apartM, keysBelow, eta, idHs, rd, SV.ren, SV.renL, Option.getD_some, List.length_cons, List.length_nil, Nat.zero_add, Nat.add_zero, Nat.reduceAdd, Nat.reduceLT, Nat.reduceLeDiff, ↓reduceIte, Kind.isOwn, List.take_succ_cons, List.take_zero, List.nil_append, and_self, true_and, exists_eq_left', Option.some.injEq, List.drop_zero, List.take_length, ne_eq, not_false_eq_true, implies_true, List.not_mem_nil, Bool.false_or, Bool.true_or, forall_const, reduceCtorEq, List.mem_cons, or_false, forall_eq_or_imp, forall_eq, Nat.succ_ne_self], by simp [frEnt, geto, eta, SV.ren, Option.getD_some, List.length_cons, List.length_nil, Nat.zero_add, Nat.add_zero, Nat.reduceAdd, Nat.reduceEqDiff, Nat.reduceLT, Nat.reduceLeDiff, ↓reduceIte, and_self, Nat.succ_ne_self]⟩, ⟨by omega, fun q a hq hx' => ?_⟩, by omega⟩
          rcases Nat.lt_or_ge q k with hqk | hqk
          · exact hne q a hqk hx'
          · obtain rfl : q = k := by omega
            rw [hx] at hx'; cases hx'; exact ⟨hn, hp⟩
    · obtain rfl : k = i := by omega
      have e1 : ¬ (k : Int) < (k : Int) := by omega
      simp (config := { maxSteps := 1000000 }) only [e1, wi, again_n, again_x, Nat.reduceEqDiff, eq_self, decide_false,  true_and, den_nil, den_o0, ↓gd_ft, den_o1, kont_app, den_reg, den_seq, den_cond, den_exit, den_b, den_xb, den_xc, ↓reduceIte, ↓e_mv, ↓e_bin, ↓u_binV, ↓binI, Opd.ev, Sx.get, put, putO, del, dels]
      refine ⟨k + 1, ⟨[(0, 0), (1, 0)], by simp [ren_mcs, EntM, compat, apartM, keysBelow, eta, idHs, rd, SV.ren, SV.renL, Option.getD_some, List.length_cons, List.length_nil, Nat.zero_add, Nat.add_zero, Nat.reduceAdd, Nat.reduceLeDiff, ↓reduceIte, Kind.isOwn, List.take_succ_cons, List.take_zero, List.nil_append, and_self, true_and, exists_eq_left', Option.some.injEq, List.drop_zero, List.take_length, ne_eq, not_false_eq_true, implies_true, List.not_mem_nil, Bool.false_or, Bool.true_or, forall_const, reduceCtorEq, List.mem_cons, or_false, forall_eq, Nat.succ_ne_self], by simp [frEnt, geto, eta, SV.ren, Option.getD_some, List.length_cons, List.length_nil, Nat.zero_add, Nat.add_zero, Nat.reduceAdd, Nat.reduceEqDiff, Nat.reduceLeDiff, ↓reduceIte, and_self, Nat.succ_ne_self]⟩, ⟨by omega, ?_, ?_⟩, by omega⟩
      · intro j x hj hx
        rcases Nat.lt_or_ge j k with h1 | h1
        · exact hok j x h1 hx
        · obtain rfl : j = k := by omega
          rw [hm] at hx; cases hx; exact hokm
      · intro q j a b hj hq ha hb
        rcases Nat.lt_or_ge j k with h1 | h1
        · exact hdf q j a b h1 hq ha hb
        · obtain rfl : j = k := by omega
          rw [hm] at hb; cases hb; exact hne q a hq ha
  · obtain rfl : i = l.length := by omega
    have c1 : ¬ (l.length : Int) < (l.length : Int) := by omega
    have hv : validB e n l = true := validB_iff.2 ⟨fun m hm => by
      obtain ⟨j, hj, rfl⟩ := List.mem_iff_getElem.1 hm
      exact hok j _ hj (List.getElem?_eq_getElem hj), ⟨by omega, by omega, by omega, by omega, by omega⟩, fun k j a b hk ha hb => hdf k j a b (List.getElem?_eq_some_iff.1 hb).1 hk ha hb⟩
    simp (config := { maxSteps := 1000000 }) only [c1, hv, again_x, Nat.reduceEqDiff, eq_self, decide_false,  true_and, and_true, den_nil, den_o0, ↓gd_ft, den_o1, kont_app, den_reg, den_seq, den_cond, den_exit, den_ret, den_xb, den_xc, finE_r, ↓reduceIte, ↓e_mv, ↓e_bin, ↓u_binV, ↓binI, ↓evRes, Opd.ev, Sx.get, put, putO, del, dels, retOf, SV.ren]
    exact ⟨[(0, 0)], rfl, by simp [compat, apartM, keysBelow, idHs, List.take_succ_cons, List.nil_append, List.take_nil, and_self]⟩
end Go.Proofs.YtkfbkooobfepeaaDoor

/- Same of custodians. -/
namespace Go.Proofs.YtkfbkooobfepeaaDoor
open Go Go.Sx Sf
set_option maxRecDepth 100000
set_option linter.unusedVariables false
variable {tS : List (Nat × List SV)}
instance decMb : DecidableEq Mb := fun a b => if h : eqM a b = true then isTrue (eqM_iff.1 h) else isFalse (fun h' => h (eqM_iff.2 h'))
def sameB (e n : Int) (l : List Mb) (e' n' : Int) (l' : List Mb) : Bool := decide (e = e' ∧ n = n' ∧ l = l')
theorem sameB_no {e n : Int} {l : List Mb} {e' n' : Int} {l' : List Mb} (h : ¬ (e = e' ∧ n = n' ∧ l = l')) : sameB e n l e' n' l' = false := decide_eq_false h
theorem sameB_yes {e n : Int} {l : List Mb} : sameB e n l e n l = true := decide_eq_true ⟨rfl, rfl, rfl⟩
set_option maxHeartbeats 8000000 in
theorem f14 (e n e' n' : Int) (l l' : List Mb) (hP : Pub l) (hP' : Pub l') (hl : l.length ≤ 9223372036854775807) (hl' : l'.length ≤ 9223372036854775807) (cap cap' : Option Nat) :
    Fun Tryd.prog tS 14 [.agg [.int .i64 e, .int .i64 n, .slc 0 0 18 l.length cap], .agg [.int .i64 e', .int .i64 n', .slc 1 0 18 l'.length cap']] [(0, ⟨.view, mcs l⟩), (1, ⟨.view, mcs l'⟩)] 2 (.bool (sameB e n l e' n' l')) [] 2 := by
  refine fun_any none cF cF_ok chk14 (show 2 ≤ 45 by decide) (by decide) ?_
  unfold sf14
  have hlen := len_mcs hP
  have hlen' := len_mcs hP'
  by_cases a1 : e = e'
  case neg =>
    have b1 : (e != e') = true := by simpa using a1
    have hv := sameB_no (e := e) (n := n) (l := l) (e' := e') (n' := n') (l' := l') (by rintro ⟨h, _⟩; exact a1 h)
    simp (config := { maxSteps := 1000000 }) only [b1, hv, undef, setv, reduceCtorEq, Nat.reduceEqDiff, Nat.reduceAdd, eq_self,  true_and, and_true, List.getElem?_cons_zero, Nat.zero_add, Nat.add_zero, frOf, den_nil, den_o0, ↓gd_tt, ↓gd_tf, den_o1, kont_app, den_g, setv, Bool.not_false, den_reg, Bool.not_false, den_seq, den_cond, den_ret, den_rc, finE_r, ↓reduceIte, ↓e_box, ↓e_load, ↓e_mv, ↓e_pick, ↓e_fld, ↓e_bin, ↓u_binV, ↓binI, ↓evRes, Opd.ev, Sx.get, put, putO, del, dels, rd, SV.cells?, retOf, SV.ren]
    exact ⟨[(0, 0), (1, 0)], rfl, by simp [compat, apartM, keysBelow, idHs, List.take_succ_cons, List.nil_append, List.cons_append, List.take_nil, and_self]⟩
  subst a1
  by_cases a2 : n = n'
  case neg =>
    have b1 : (n != n') = true := by simpa using a2
    have hv := sameB_no (e := e) (n := n) (l := l) (e' := e) (n' := n') (l' := l') (by rintro ⟨_, h, _⟩; exact a2 h)
    simp (config := { maxSteps := 1000000 }) only [bne_self_eq_false, b1, hv, undef, setv, reduceCtorEq, Nat.reduceEqDiff, Nat.reduceAdd, eq_self,  true_and, and_true, List.getElem?_cons_zero, List.getElem?_cons_succ, Nat.zero_add, Nat.add_zero, frOf, den_nil, den_o0, ↓gd_tt, ↓gd_ff, ↓gd_tf, ↓gd_ft, den_o1, kont_app, den_g, setv, Bool.not_false, den_reg, Bool.not_false, den_seq, den_cond, den_ret, den_rc, finE_r, ↓reduceIte, ↓e_box, ↓e_load, ↓e_mv, ↓e_pick, ↓e_fld, ↓e_bin, ↓u_binV, ↓binI, ↓evRes, Opd.ev, Sx.get, put, putO, del, dels, rd, SV.cells?, retOf, SV.ren]
    exact ⟨[(0, 0), (1, 0)], rfl, by simp [compat, apartM, keysBelow, idHs, List.take_succ_cons, List.nil_append, List.cons_append, List.take_nil, and_self]⟩
  subst a2
  by_cases a3 : l.length = l'.length
  case neg =>
    have b1 : ((l.length : Int) != (l'.length : Int)) = true := by rw [bne_iff_ne]; omega
    have hv := sameB_no (e := e) (n := n) (l := l) (e' := e) (n' := n) (l' := l') (by rintro ⟨_, _, h⟩; rw [h] at a3; exact a3 rfl)
    simp (config := { maxSteps := 1000000 }) only [bne_self_eq_false, b1, hv, setv, reduceCtorEq, Nat.reduceEqDiff, Nat.reduceAdd, eq_self,  true_and, and_true, List.getElem?_cons_zero, List.getElem?_cons_succ, Nat.zero_add, Nat.add_zero, frOf, den_nil, den_o0, ↓gd_tt, ↓gd_ff, ↓gd_ft, den_o1, kont_app, den_g, setv, den_reg, den_seq, den_cond, den_ret, den_rc, finE_r, ↓reduceIte, ↓e_box, ↓e_load, ↓e_mv, ↓e_pick, ↓e_fld, ↓e_bin, ↓e_len, ↓u_binV, ↓binI, ↓evRes, Opd.ev, Sx.get, put, putO, del, dels, rd, SV.cells?, retOf, SV.ren]
    exact ⟨[(0, 0), (1, 0)], rfl, by simp [compat, apartM, keysBelow, idHs, List.take_succ_cons, List.nil_append, List.cons_append, List.take_nil, and_self]⟩
  have b3 : ((l.length : Int) != (l'.length : Int)) = false := by rw [a3]; simp
  simp (config := { maxSteps := 1000000 }) only [b3, bne_self_eq_false, setv, reduceCtorEq, Nat.reduceEqDiff, Nat.reduceAdd, eq_self,  true_and, List.getElem?_cons_zero, List.getElem?_cons_succ, Nat.zero_add, Nat.add_zero, frOf, den_o0, ↓gd_ff, ↓gd_ft, den_o1, kont_app, den_g, setv, den_skip, den_reg, den_seq, den_cond, den_block, ↓reduceIte, ↓e_box, ↓e_load, ↓e_mv, ↓e_pick, ↓e_fld, ↓e_bin, ↓e_len, ↓u_binV, ↓binI, Opd.ev, Sx.get, put, putO, del, dels, rd, SV.cells?]
  rw [den_loop]
  refine den_inv cF_ok (σ := Nat) (fun i => [(5, .int .i64 (i : Int)), (3, .ptr 3 0), (2, .ptr 2 0)])
    (fun i => [(3, ⟨.own 24, [.int .i64 e, .int .i64 n, .slc 1 0 18 l'.length cap']⟩), (2, ⟨.own 24, [.int .i64 e, .int .i64 n, .slc 0 0 18 l.length cap]⟩), (0, ⟨.view, mcs l⟩), (1, ⟨.view, mcs l'⟩)]) (fun _ => 4)
    (fun i => i ≤ l.length ∧ ∀ (k : Nat) (a b : Mb), k < i → l[k]? = some a → l'[k]? = some b → a = b) (fun i => l.length - i) 0 ?_ ⟨Nat.zero_le _, fun k a b h => by omega⟩ ?_
  · exact ⟨[(0, 0), (1, 0), (2, 0), (3, 0)], by simp [ren_mcs, EntM, compat, apartM, keysBelow, eta, idHs, rd, SV.ren, SV.renL, Option.getD_some, List.length_cons, List.length_nil, Nat.zero_add, Nat.add_zero, Nat.reduceAdd, Nat.reduceEqDiff, Nat.reduceLT, Nat.reduceLeDiff, ↓reduceIte, Kind.isOwn, List.take_succ_cons, List.take_zero, List.nil_append, List.cons_append, and_self, true_and, exists_eq_left', Option.some.injEq, List.drop_zero, List.take_length, ne_eq, not_false_eq_true, implies_true, List.not_mem_nil, Bool.false_or, Bool.true_or, forall_const, reduceCtorEq, List.mem_cons, or_false, forall_eq_or_imp, forall_eq, Nat.succ_ne_self], by simp [frEnt, geto, eta, SV.ren, Option.getD_some, List.length_cons, List.length_nil, Nat.zero_add, Nat.add_zero, Nat.reduceAdd, Nat.reduceEqDiff, Nat.reduceLT, Nat.reduceLeDiff, ↓reduceIte, and_self, Nat.succ_ne_self]⟩
  rintro i ⟨hi, hs⟩
  by_cases h : i < l.length
  · have c1 : (i : Int) < (l.length : Int) := by omega
    have c1' : (i : Int) < (l'.length : Int) := by omega
    have c2 : (0 : Int) ≤ (i : Int) := by omega
    have wi : IntKind.i64.wrap ((i : Int) + 1) = ((i + 1 : Nat) : Int) := by rw [wrap64_eq (by omega) (by omega)]; omega
    have q1 : i * 18 < l.length * 18 := by omega
    have q2 : i * 18 + 18 ≤ l.length * 18 := by omega
    have q1' : i * 18 < l'.length * 18 := by omega
    have q2' : i * 18 + 18 ≤ l'.length * 18 := by omega
    obtain ⟨m, hm⟩ : ∃ m, l[i]? = some m := ⟨_, List.getElem?_eq_getElem h⟩
    obtain ⟨m', hm'⟩ : ∃ m, l'[i]? = some m := ⟨_, List.getElem?_eq_getElem (by omega)⟩
    have g1 := take_row hP hm
    have g2 := take_row hP' hm'
    have he := eq_mb (hP m (List.mem_of_getElem? hm)) (hP' m' (List.mem_of_getElem? hm'))
    have ml := Mb.sv_len (hP m (List.mem_of_getElem? hm))
    have ml' := Mb.sv_len (hP' m' (List.mem_of_getElem? hm'))
    cases hq : eqM m m' with
    | false =>
      rw [hq] at he
      have hv := sameB_no (e := e) (n := n) (l := l) (e' := e) (n' := n) (l' := l') (by
        rintro ⟨_, _, h⟩
        rw [h, hm'] at hm
        cases hm
        rw [eqM_iff.2 rfl] at hq
        cases hq)
      generalize m.sv = sv at *
      generalize m'.sv = sv' at *
      simp (config := { maxSteps := 1000000 }) only [c1, c1', c2, q1, q2, q1', q2', hlen, hlen', g1, g2, ↓he, hv, again_r, reduceCtorEq, Nat.reduceEqDiff, eq_self, decide_true,  true_and, and_true, List.getElem?_cons_zero, List.getElem?_cons_succ, Nat.zero_add, den_nil, den_o0, ↓gd_tt, den_o1, kont_app, Bool.not_false, den_skip, den_reg, den_regP, Bool.not_false, den_seq, den_cond, den_block, den_ret, den_rb, den_rc, finE_r, ↓reduceIte, ↓e_load, ↓e_idxS, ↓e_eqv, ↓e_mv, ↓e_fld, ↓e_bin, ↓e_len, ↓u_binV, ↓binI, ↓evRes, Opd.ev, Sx.get, put, putO, del, dels, rd, retOf, SV.ren, Int.toNat_natCast]
      exact ⟨[(0, 0), (1, 0)], rfl, by simp [compat, apartM, keysBelow, idHs, List.take_succ_cons, List.nil_append, List.cons_append, List.take_nil, and_self]⟩
    | true =>
      rw [hq] at he
      have hmm := eqM_iff.1 hq
      generalize m.sv = sv at *
      generalize m'.sv = sv' at *
      simp (config := { maxSteps := 1000000 }) only [c1, c1', c2, wi, q1, q2, q1', q2', hlen, hlen', g1, g2, ↓he, again_n, reduceCtorEq, Nat.reduceEqDiff, eq_self, decide_true,  true_and, List.getElem?_cons_zero, List.getElem?_cons_succ, Nat.zero_add, den_nil, den_o0, ↓gd_tt, ↓gd_ft, den_o1, kont_app, Bool.not_true, den_skip, den_reg, den_regP, Bool.not_true, den_seq, den_cond, den_block, den_b, ↓reduceIte, ↓e_load, ↓e_idxS, ↓e_eqv, ↓e_mv, ↓e_fld, ↓e_bin, ↓e_len, ↓u_binV, ↓binI, Opd.ev, Sx.get, put, putO, del, dels, rd, Int.toNat_natCast]
      refine ⟨i + 1, ⟨[(0, 0), (1, 0), (2, 0), (3, 0)], by simp [ren_mcs, EntM, compat, apartM, keysBelow, eta, idHs, rd, SV.ren, SV.renL, Option.getD_some, List.length_cons, List.length_nil, Nat.zero_add, Nat.add_zero, Nat.reduceAdd, Nat.reduceEqDiff, Nat.reduceLT, Nat.reduceLeDiff, ↓reduceIte, Kind.isOwn, List.take_succ_cons, List.take_zero, List.nil_append, List.cons_append, and_self, true_and, exists_eq_left', Option.some.injEq, List.drop_zero, List.take_length, ne_eq, not_false_eq_true, implies_true, List.not_mem_nil, Bool.false_or, Bool.true_or, forall_const, reduceCtorEq, List.mem_cons, or_false, forall_eq_or_imp, forall_eq, Nat.succ_ne_self], by simp [frEnt, geto, eta, SV.ren, Option.getD_some, List.length_cons, List.length_nil, Nat.zero_add, Nat.add_zero, Nat.reduceAdd, Nat.reduceEqDiff, Nat.reduceLT, Nat.reduceLeDiff, ↓reduceIte, and_self, Nat.succ_ne_self]⟩, ⟨by omega, fun k a b hk ha hb => ?_⟩, by omega⟩
      rcases Nat.lt_or_ge k i with h1 | h1
      · exact hs k a b h1 ha hb
      · obtain rfl : k = i := by omega
        rw [hm] at ha; rw [hm'] at hb; cases ha; cases hb; exact hmm
  · obtain rfl : i = l.length := by omega
    have c1 : ¬ (l.length : Int) < (l.length : Int) := by omega
    have hll : l = l' := by
      apply List.ext_getElem a3
      intro k h1 h2
      exact hs k _ _ h1 (List.getElem?_eq_getElem h1) (List.getElem?_eq_getElem h2)
    have hv : sameB e n l e n l' = true := by rw [← hll]; exact sameB_yes
    simp (config := { maxSteps := 1000000 }) only [c1, hv, again_x, Nat.reduceEqDiff, eq_self, decide_false,  true_and, and_true, List.getElem?_cons_zero, List.getElem?_cons_succ, Nat.zero_add, den_nil, den_o0, ↓gd_ft, den_o1, kont_app, den_reg, den_seq, den_cond, den_exit, den_ret, den_xb, den_xc, finE_r, ↓reduceIte, ↓e_load, ↓e_mv, ↓e_fld, ↓e_bin, ↓e_len, ↓u_binV, ↓binI, ↓evRes, Opd.ev, Sx.get, put, putO, del, dels, rd, retOf, SV.ren]
    exact ⟨[(0, 0), (1, 0)], rfl, by simp [compat, apartM, keysBelow, idHs, List.take_succ_cons, List.nil_append, List.cons_append, List.take_nil, and_self]⟩
theorem f14n (e n e' n' : Int) : Fun Tryd.prog tS 14 [.agg [.int .i64 e, .int .i64 n, .val (.slice none 0 0)], .agg [.int .i64 e', .int .i64 n', .val (.slice none 0 0)]] [] 0 (.bool (sameB e n [] e' n' [])) [] 0 := by
  refine fun_any (some 2) cF cF_ok chk14 (show 2 ≤ 45 by decide) (by decide) ?_
  unfold sf14
  by_cases a1 : e = e'
  case neg =>
    have b1 : (e != e') = true := by simpa using a1
    have hv := sameB_no (e := e) (n := n) (l := []) (e' := e') (n' := n') (l' := []) (by rintro ⟨h, _⟩; exact a1 h)
    simp (config := { maxSteps := 1000000 }) only [b1, hv, undef, setv, reduceCtorEq, Nat.reduceEqDiff, Nat.reduceAdd, eq_self,  true_and, and_true, List.getElem?_cons_zero, Nat.zero_add, Nat.add_zero, frOf, den_nil, den_o0, ↓gd_tt, ↓gd_tf, den_o1, kont_app, den_g, setv, Bool.not_false, den_reg, Bool.not_false, den_seq, den_cond, den_ret, den_rc, finE_r, ↓reduceIte, ↓e_box, ↓e_load, ↓e_mv, ↓e_pick, ↓e_fld, ↓e_bin, ↓u_binV, ↓binI, ↓evRes, Opd.ev, Sx.get, put, putO, del, dels, rd, SV.cells?, retOf, SV.ren]
    exact ⟨[], rfl, by simp [compat, apartM, keysBelow, idHs, List.take_nil, and_self]⟩
  subst a1
  by_cases a2 : n = n'
  case neg =>
    have b1 : (n != n') = true := by simpa using a2
    have hv := sameB_no (e := e) (n := n) (l := []) (e' := e) (n' := n') (l' := []) (by rintro ⟨_, h, _⟩; exact a2 h)
    simp (config := { maxSteps := 1000000 }) only [bne_self_eq_false, b1, hv, undef, setv, reduceCtorEq, Nat.reduceEqDiff, Nat.reduceAdd, eq_self,  true_and, and_true, List.getElem?_cons_zero, List.getElem?_cons_succ, Nat.zero_add, Nat.add_zero, frOf, den_nil, den_o0, ↓gd_tt, ↓gd_ff, ↓gd_tf, ↓gd_ft, den_o1, kont_app, den_g, setv, Bool.not_false, den_reg, Bool.not_false, den_seq, den_cond, den_ret, den_rc, finE_r, ↓reduceIte, ↓e_box, ↓e_load, ↓e_mv, ↓e_pick, ↓e_fld, ↓e_bin, ↓u_binV, ↓binI, ↓evRes, Opd.ev, Sx.get, put, putO, del, dels, rd, SV.cells?, retOf, SV.ren]
    exact ⟨[], rfl, by simp [compat, apartM, keysBelow, idHs, List.take_nil, and_self]⟩
  subst a2
  have hv : sameB e n [] e n [] = true := sameB_yes
  simp (config := { maxSteps := 1000000 }) only [bne_self_eq_false, hv, setv, reduceCtorEq, Nat.reduceEqDiff, Nat.reduceAdd, Int.reduceLT, eq_self, decide_false,  true_and, and_true, List.getElem?_cons_zero, List.getElem?_cons_succ, Nat.zero_add, Nat.add_zero, frOf, den_nil, den_o0, ↓gd_ff, ↓gd_ft, den_o1, kont_app, den_g, setv, den_skip, den_reg, den_seq, den_cond, den_block, den_exit, den_ret, den_xb, den_xc, den_xu, den_u, den_loopU, finE_r, ↓reduceIte, ↓e_box, ↓e_load, ↓e_mv, ↓e_pick, ↓e_fld, ↓e_bin, ↓e_len, ↓u_binV, ↓binI, ↓evRes, Opd.ev, Sx.get, put, putO, del, dels, rd, SV.cells?, retOf, SV.ren]
  exact ⟨[], rfl, by simp [compat, apartM, keysBelow, idHs, List.take_nil, and_self]⟩
def gSameC : GS
  | [.agg [.int .i64 e, .int .i64 n, .slc 0 0 18 len _], .agg [.int .i64 e', .int .i64 n', .slc 1 0 18 len' _]], [(0, ⟨.view, cells⟩), (1, ⟨.view, cells'⟩)] => match unM cells.length cells, unM cells'.length cells' with
    | some l, some l' => if len = l.length ∧ len' = l'.length then (match Nat.ble l.length 9223372036854775807, Nat.ble l'.length 9223372036854775807 with
      | true, true => some (.bool (sameB e n l e' n' l'), [], 2)
      | _, _ => none) else none
    | _, _ => none
  | [.agg [.int .i64 e, .int .i64 n, .val (.slice none 0 0)], .agg [.int .i64 e', .int .i64 n', .val (.slice none 0 0)]], [] => some (.bool (sameB e n [] e' n' []), [], 0)
  | _, _ => none
theorem gSameC_ok : FunS Tryd.prog tS 14 gSameC := by
  intro a0 m0 r m1 n1 h
  unfold gSameC at h
  split at h
  · split at h
    · rename_i l l' hl hl'
      split at h
      · rename_i hc
        obtain ⟨h1, h2⟩ := hc
        split at h
        · rename_i b1 b2
          cases h
          subst h1; subst h2
          obtain ⟨rfl, hP⟩ := unM_some hl
          obtain ⟨rfl, hP'⟩ := unM_some hl'
          exact ⟨f14 _ _ _ _ l l' hP hP' (Nat.le_of_ble_eq_true b1) (Nat.le_of_ble_eq_true b2) _ _, by simp [freshB]⟩
        · cases h
      · cases h
    · cases h
  · cases h; exact ⟨f14n _ _ _ _, by simp [freshB]⟩
  · cases h
def gValidR : GS
  | [.agg [.int .i64 e, .int .i64 n, .slc 0 0 18 len _]], [(0, ⟨.view, cells⟩)] => match unM cells.length cells with
    | some l => if len = l.length then (match Nat.ble l.length 9223372036854775807 with
      | true => some (.bool (validB e n l), [], 1)
      | false => none) else none
    | none => none
  | _, _ => none
theorem gValidR_ok : FunS Tryd.prog tS 13 gValidR := by
  intro a0 m0 r m1 n1 h
  unfold gValidR at h
  split at h
  · split at h
    · rename_i l hl
      split at h
      · rename_i he
        split at h
        · rename_i hb
          cases h
          subst he
          obtain ⟨rfl, hP⟩ := unM_some hl
          exact ⟨f13 _ _ l hP (Nat.le_of_ble_eq_true hb) _, by simp [freshB]⟩
        · cases h
      · cases h
    · cases h
  · cases h
end Go.Proofs.YtkfbkooobfepeaaDoor

/- Encode of package custodian. -/
namespace Go.Proofs.YtkfbkooobfepeaaDoor
open Go Go.Sx Sf
set_option maxRecDepth 100000
set_option linter.unusedVariables false
variable {tS : List (Nat × List SV)}
def tabEn : List (FuncId × GS) := [(31, gInts), (32, gCat), (33, gBytes), (34, gInt)]
theorem tabEn_ok : ∀ x ∈ tabEn, FunS Tryd.prog tS x.1 x.2 := by
  intro x hx
  simp only [tabEn, List.mem_cons, List.not_mem_nil, or_false] at hx
  rcases hx with rfl | rfl | rfl | rfl
  · exact gInts_ok
  · exact gCat_ok
  · exact gBytes_ok
  · exact gInt_ok
def encMb (m : Mb) : List UInt8 := encS m.name ++ m.pub ++ encI m.h
def encMs : List Mb → List UInt8
  | [] => []
  | m :: l => encMb m ++ encMs l
def encodeS (e n : Int) (l : List Mb) : List UInt8 := encIs [e, n, (l.length : Int)] ++ encMs l
set_option maxHeartbeats 8000000 in
theorem f18 (e n : Int) (l : List Mb) (hP : Pub l) (hl : l.length ≤ 9223372036854775807) (hT : (encodeS e n l).length ≤ 2 ^ 38) (cap : Option Nat) :
    Fun Tryd.prog tS 18 [.agg [.int .i64 e, .int .i64 n, .slc 0 0 18 l.length cap]] [(0, ⟨.view, mcs l⟩)] 1 (.str (encodeS e n l)) [] 1 := by
  refine fun_any none (callS tabEn cF) (callS_ok tabEn_ok cF_ok) chk18 (show 1 ≤ 36 by decide) (by decide) ?_
  unfold sf18
  have hlen := len_mcs hP
  have h3 := encIs3 e n (l.length : Int)
  simp (config := { maxSteps := 1000000 }) only [tabEn, gInts, unI, SV.flatL, SV.flat, Bool.and_self, and_self, lookF, reduceCtorEq, Nat.reduceEqDiff, Nat.reduceAdd, Nat.reduceSub, Nat.reduceLeDiff, Nat.reduceLT, eq_self,  true_and, List.getElem?_cons_zero, List.getElem?_cons_succ, List.length_cons, List.length_nil, List.append_nil, List.nil_append, List.cons_append, List.take_succ_cons, List.take_zero, List.drop_succ_cons, List.drop_zero, List.take_nil, List.drop_nil, List.map_cons, List.map_nil, Nat.zero_add, Nat.add_zero, frOf, den_o0, den_o1, kont_app, den_reg, den_seq, den_block, ↓reduceIte, ↓e_box, ↓e_bslice, ↓e_load, ↓e_mv, ↓e_fld, ↓e_call, ↓e_len, ↓fillE, Opd.ev, Sx.get, put, putO, del, dels, rd, splice, SV.cells?, SV.one, ↓u_callS, canLW, canV, canC, belowL, apH, apH1, eta, SV.ren, newOwn, targets, rms, Kind.isOwn, ren_bytes, List.getElem?_nil, Option.getD_none, Nat.le_refl, Nat.mul_one]
  rw [den_loop]
  refine den_inv (callS_ok tabEn_ok cF_ok) (σ := Nat × List UInt8) (fun s => [(18, .int .i64 (s.1 : Int)), (17, .int .i64 (l.length : Int)), (16, .slc 0 0 18 l.length cap), (3, .slc 2 0 1 s.2.length none)])
    (fun s => [(2, ⟨.own 5, bys s.2⟩), (0, ⟨.view, mcs l⟩)]) (fun _ => 3) (fun s => s.1 ≤ l.length ∧ s.2 ++ encMs (l.drop s.1) = encodeS e n l) (fun s => l.length - s.1) (0, encIs [e, n, (l.length : Int)]) ?_ ⟨Nat.zero_le _, rfl⟩ ?_
  · exact ⟨[(0, 0), (1, 0), (3, 0)], by simp [ren_mcs, EntM, compat, apartM, keysBelow, eta, idHs, rd, Option.getD_some, List.length_cons, List.length_nil, Nat.zero_add, Nat.add_zero, Nat.reduceAdd, Nat.reduceLeDiff, ↓reduceIte, Kind.isOwn, List.take_succ_cons, List.take_zero, List.nil_append, and_self, true_and, exists_eq_left', Option.some.injEq, List.drop_zero, List.take_length, ne_eq, not_false_eq_true, implies_true, List.not_mem_nil, Bool.false_or, Bool.true_or, forall_const, reduceCtorEq, List.mem_cons, or_false, forall_eq, Nat.succ_ne_self, ren_bytes], by simp [frEnt, geto, eta, SV.ren, Option.getD_some, List.length_cons, List.length_nil, Nat.zero_add, Nat.add_zero, Nat.reduceAdd, Nat.reduceEqDiff, Nat.reduceLeDiff, ↓reduceIte, and_self, Nat.succ_ne_self]⟩
  · rintro ⟨i, pre⟩ ⟨hi, hpre⟩
    simp only at hi hpre
    have hlen0 := congrArg List.length hpre
    simp only [List.length_append] at hlen0
    by_cases h : i < l.length
    · have c1 : (i : Int) < (l.length : Int) := by omega
      have c2 : (0 : Int) ≤ (i : Int) := by omega
      have wi : IntKind.i64.wrap ((i : Int) + 1) = ((i + 1 : Nat) : Int) := by rw [wrap64_eq (by omega) (by omega)]; omega
      have q1 : i * 18 < l.length * 18 := by omega
      have q2 : i * 18 + 18 ≤ l.length * 18 := by omega
      obtain ⟨m, hm⟩ : ∃ m, l[i]? = some m := ⟨_, List.getElem?_eq_getElem h⟩
      have hd : l.drop i = m :: l.drop (i + 1) := by
        rw [List.drop_eq_getElem_cons h]
        rw [List.getElem?_eq_getElem h] at hm; cases hm; rfl
      have h16 := hP m (List.mem_of_getElem? hm)
      have g18 := take_row hP hm
      have ml := Mb.sv_len h16
      have m0 := mb0 m
      have m17 := mb17 h16
      have mp := mbpub h16
      rw [hd] at hpre
      simp only [encMs, encMb, ← List.append_assoc] at hpre
      have hlen2 := congrArg List.length hpre
      simp only [List.length_append] at hlen2
      have hq := encI_len m.h
      have hsl : (encS m.name).length = (encI m.name.length).length + m.name.length := by simp [encS]
      have k1 : m.name.length ≤ 2 ^ 39 := by omega
      have k2 : 0 < (pre ++ encS m.name ++ m.pub ++ encI m.h).length := by simp only [List.length_append, encI, List.length_cons]; omega
      have k3 : (pre ++ encS m.name ++ m.pub ++ encI m.h).length ≤ 2 ^ 38 := by simp only [List.length_append]; omega
      have hrsv : ∀ η, SV.renL η m.sv = m.sv := fun η => ren_mb η m
      generalize hsv : m.sv = sv at *
      simp (config := { maxSteps := 1000000 }) only [gCat, gBytes, gInt, unB_bytes, c1, c2, wi, q1, q2, hlen, g18, ml, m0, m17, mp, k1, k2, k3, h16, SV.flatL, SV.flat, Bool.and_true, Bool.and_self, and_self, lookF, again_n, reduceCtorEq, Nat.reduceEqDiff, Nat.reduceAdd, Nat.reduceSub, Nat.reduceLeDiff, Nat.reduceLT, Int.reduceToNat, Int.reduceLE, false_imp_iff, eq_self, decide_true, Int.cast_ofNat_Int,  true_and, List.getElem?_cons_zero, List.getElem?_cons_succ, List.length_cons, List.length_nil, List.append_nil, List.nil_append, List.cons_append, List.take_succ_cons, List.take_zero, List.drop_succ_cons, List.drop_zero, List.take_nil, List.drop_nil, List.reverse_cons, List.reverse_nil, List.map_cons, List.map_nil, Nat.zero_add, Nat.add_zero, den_nil, den_o0, ↓gd_tt, den_o1, kont_app, den_skip, den_reg, den_regD, den_A, Bool.or_self, den_seq, den_cond, den_block, den_b, ↓reduceIte, ↓e_bslice, ↓e_load, ↓e_store, ↓e_idxS, ↓e_mv, ↓e_new, ↓e_fld, ↓e_bin, ↓e_slcA, ↓e_call, ↓u_onOpt0, ↓u_binV, ↓binI, ↓fillE, evA, Opd.ev, Sx.get, put, putO, del, dels, frD, memD, pickD, kills, views, newer, rd, upd, splice, SV.cells?, SV.one, ↓u_callS, canLW, canV, canC, belowL, apH, apH1, eta, SV.ren, newOwn, targets, rms, Kind.isOwn, ren_bytes, List.getElem?_nil, Option.getD_none, Nat.sub_zero, Nat.le_refl, take_bytes, len_bytes, flat_bytes, Int.toNat_natCast, Nat.mul_one, Int.cast_ofNat_Int]
      exact ⟨(i + 1, _), ⟨[(0, 0), (1, 0), (7, 0)], by simp [ren_mcs, EntM, compat, apartM, keysBelow, eta, idHs, rd, Option.getD_some, List.length_cons, List.length_nil, Nat.zero_add, Nat.add_zero, Nat.reduceAdd, Nat.reduceLeDiff, ↓reduceIte, Kind.isOwn, List.take_succ_cons, List.take_zero, List.nil_append, and_self, true_and, exists_eq_left', Option.some.injEq, List.drop_zero, List.take_length, ne_eq, not_false_eq_true, implies_true, List.not_mem_nil, Bool.false_or, Bool.true_or, forall_const, reduceCtorEq, List.mem_cons, or_false, forall_eq, ren_bytes], by simp [frEnt, geto, eta, SV.ren, Option.getD_some, List.length_cons, List.length_nil, Nat.zero_add, Nat.add_zero, Nat.reduceAdd, Nat.reduceEqDiff, Nat.reduceLeDiff, ↓reduceIte, and_self, Nat.succ_ne_self]⟩, ⟨by simp only; omega, hpre⟩, by simp only; omega⟩
    · obtain rfl : i = l.length := by omega
      simp only [List.drop_length, encMs, List.append_nil] at hpre
      subst hpre
      have c1 : ¬ (l.length : Int) < (l.length : Int) := by omega
      simp (config := { maxSteps := 1000000 }) only [c1, again_x, Nat.reduceEqDiff, eq_self, decide_false,  true_and, List.drop_zero, Nat.zero_add, den_nil, den_o0, ↓gd_ft, den_o1, kont_app, den_reg, den_seq, den_cond, den_exit, den_ret, den_xb, den_xc, finE_r, ↓reduceIte, ↓e_b2s, ↓e_mv, ↓e_bin, ↓u_binV, ↓u_srcSl, ↓binI, ↓evRes, Opd.ev, Sx.get, put, putO, del, dels, rd, retOf, SV.ren, Nat.le_refl, take_bytes, len_bytes, Nat.mul_one]
      exact ⟨all_isU8 _, [(0, 0)], ⟨rfl, by simp [compat, apartM, keysBelow, idHs, List.take_succ_cons, List.nil_append, List.take_nil, and_self]⟩, by rw [map_byteOf]⟩
theorem f18n (e n : Int) : Fun Tryd.prog tS 18 [.agg [.int .i64 e, .int .i64 n, .val (.slice none 0 0)]] [] 0 (.str (encodeS e n [])) [] 0 := by
  refine fun_any (some 2) (callS tabEn cF) (callS_ok tabEn_ok cF_ok) chk18 (show 1 ≤ 36 by decide) (by decide) ?_
  unfold sf18
  have hq : encIs [e, n, 0] = encodeS e n [] := by simp [encodeS, encMs]
  simp (config := { maxSteps := 1000000 }) only [tabEn, gInts, unI, hq, SV.flatL, SV.flat, Bool.and_self, and_self, lookF, reduceCtorEq, Nat.reduceEqDiff, Nat.reduceAdd, Nat.reduceSub, Nat.reduceLeDiff, Nat.reduceLT, Int.reduceLT, eq_self, decide_false,  true_and, List.getElem?_cons_zero, List.getElem?_cons_succ, List.length_cons, List.length_nil, List.append_nil, List.nil_append, List.cons_append, List.take_succ_cons, List.take_zero, List.drop_succ_cons, List.drop_zero, List.take_nil, List.drop_nil, List.map_cons, List.map_nil, Nat.zero_add, Nat.add_zero, frOf, den_nil, den_o0, ↓gd_ft, den_o1, kont_app, den_reg, den_seq, den_cond, den_block, den_exit, den_ret, den_xb, den_xc, den_xu, den_u, den_loopU, finE_r, ↓reduceIte, ↓e_box, ↓e_bslice, ↓e_load, ↓e_b2s, ↓e_mv, ↓e_fld, ↓e_bin, ↓e_call, ↓e_len, ↓u_binV, ↓u_srcSl, ↓binI, ↓fillE, ↓evRes, Opd.ev, Sx.get, put, putO, del, dels, rd, splice, SV.cells?, SV.one, retOf, ↓u_callS, canLW, canV, canC, belowL, apH, apH1, eta, SV.ren, newOwn, targets, rms, Kind.isOwn, ren_bytes, List.getElem?_nil, Option.getD_none, Nat.le_refl, take_bytes, len_bytes, Nat.mul_one]
  exact ⟨all_isU8 _, [], by simp [EntM, compat, apartM, keysBelow, idHs, List.length_nil, List.take_nil, and_self], by rw [map_byteOf]⟩
def gEncode : GS
  | [.agg [.int .i64 e, .int .i64 n, .slc 0 0 18 len _]], [(0, ⟨.view, cells⟩)] => match unM cells.length cells with
    | some l => if len = l.length ∧ (encodeS e n l).length ≤ 2 ^ 38 then (match Nat.ble l.length 9223372036854775807 with
      | true => some (.str (encodeS e n l), [], 1)
      | false => none) else none
    | none => none
  | [.agg [.int .i64 e, .int .i64 n, .val (.slice none 0 0)]], [] => some (.str (encodeS e n []), [], 0)
  | _, _ => none
theorem gEncode_ok : FunS Tryd.prog tS 18 gEncode := by
  intro a0 m0 r m1 n1 h
  unfold gEncode at h
  split at h
  · split at h
    · rename_i l hl
      split at h
      · rename_i he
        split at h
        · rename_i hb
          cases h
          obtain ⟨he, hT⟩ := he
          subst he
          obtain ⟨rfl, hP⟩ := unM_some hl
          exact ⟨f18 _ _ l hP (Nat.le_of_ble_eq_true hb) hT _, by simp [freshB]⟩
        · cases h
      · cases h
    · cases h
  · cases h; exact ⟨f18n _ _, by simp [freshB]⟩
  · cases h
end Go.Proofs.YtkfbkooobfepeaaDoor

/- Decode of the reference. -/
namespace Go.Proofs.YtkfbkooobfepeaaDoor
open Go Go.Sx Sf
set_option maxRecDepth 100000
set_option linter.unusedVariables false
variable {tS : List (Nat × List SV)}
def refMs (t : List UInt8) : Nat → Nat → List Mb × Nat × Int
  | 0, z => ([], z, 0)
  | k + 1, z => if (bytS (t.drop z)).2.2 ≠ 0 then ([], 0, (bytS (t.drop z)).2.2) else
    if t.length - (z + (bytS (t.drop z)).2.1) < 16 then ([], 0, 5) else
    if (decS (t.drop (z + (bytS (t.drop z)).2.1 + 16))).2.2 ≠ 0 then ([], 0, (decS (t.drop (z + (bytS (t.drop z)).2.1 + 16))).2.2) else
    let r := refMs t k (z + (bytS (t.drop z)).2.1 + 16 + (decS (t.drop (z + (bytS (t.drop z)).2.1 + 16))).2.1)
    if r.2.2 ≠ 0 then r else
      (⟨(bytS (t.drop z)).1, (t.drop (z + (bytS (t.drop z)).2.1)).take 16, (decS (t.drop (z + (bytS (t.drop z)).2.1 + 16))).1⟩ :: r.1, r.2.1, 0)
def decodeR (t : List UInt8) : DR :=
  let x := intsS t
  if x.2.2 ≠ 0 then ⟨0, 0, [], x.2.2⟩ else match x.1 with
  | [a, b, c] => if c < 1 ∨ c > 16 then ⟨0, 0, [], 6⟩ else
    let r := refMs t c.toNat x.2.1
    if r.2.2 ≠ 0 then ⟨0, 0, [], r.2.2⟩ else if r.2.1 ≠ t.length ∨ validB a b r.1 = false then ⟨0, 0, [], 6⟩ else ⟨a, b, r.1, 0⟩
  | _ => ⟨0, 0, [], 6⟩
theorem refMs_succ (t : List UInt8) (k z : Nat) : refMs t (k + 1) z = if (bytS (t.drop z)).2.2 ≠ 0 then ([], 0, (bytS (t.drop z)).2.2) else
    if t.length - (z + (bytS (t.drop z)).2.1) < 16 then ([], 0, 5) else
    if (decS (t.drop (z + (bytS (t.drop z)).2.1 + 16))).2.2 ≠ 0 then ([], 0, (decS (t.drop (z + (bytS (t.drop z)).2.1 + 16))).2.2) else
    if (refMs t k (z + (bytS (t.drop z)).2.1 + 16 + (decS (t.drop (z + (bytS (t.drop z)).2.1 + 16))).2.1)).2.2 ≠ 0 then refMs t k (z + (bytS (t.drop z)).2.1 + 16 + (decS (t.drop (z + (bytS (t.drop z)).2.1 + 16))).2.1) else
      (⟨(bytS (t.drop z)).1, (t.drop (z + (bytS (t.drop z)).2.1)).take 16, (decS (t.drop (z + (bytS (t.drop z)).2.1 + 16))).1⟩ :: (refMs t k (z + (bytS (t.drop z)).2.1 + 16 + (decS (t.drop (z + (bytS (t.drop z)).2.1 + 16))).2.1)).1, (refMs t k (z + (bytS (t.drop z)).2.1 + 16 + (decS (t.drop (z + (bytS (t.drop z)).2.1 + 16))).2.1)).2.1, 0) := (rfl)
def preM (l : List Mb) (x : List Mb × Nat × Int) : List Mb × Nat × Int := if x.2.2 ≠ 0 then x else (l ++ x.1, x.2.1, 0)
theorem preM_nil (x : List Mb × Nat × Int) : preM [] x = x := by
  unfold preM
  split
  · rfl
  · rename_i h
    have h : x.2.2 = 0 := by simpa using h
    obtain ⟨a, b, c⟩ := x
    simp only at h
    rw [h]; rfl
theorem preM_err {l : List Mb} {e : Int} (h : e ≠ 0) : preM l ([], 0, e) = ([], 0, e) := if_pos h
theorem preM_pre {l : List Mb} {m : Mb} {r : List Mb × Nat × Int} : preM l (if r.2.2 ≠ 0 then r else (m :: r.1, r.2.1, 0)) = preM (l ++ [m]) r := by
  unfold preM
  by_cases h : r.2.2 = 0
  · simp [h]
  · simp [h]
theorem sp_pub {nm P : List UInt8} {h : Int} {j : Nat} {c : UInt8} (hP : P.length = 16) (hc : P[j]? = some c) (hj : j < 16) :
    splice (Mb.sv ⟨nm, P.take j ++ List.replicate (16 - j) 0, h⟩) (1 + j) [.int .u8 (c.toNat : Int)] = Mb.sv ⟨nm, P.take (j + 1) ++ List.replicate (16 - (j + 1)) 0, h⟩ := by
  have e1 : List.replicate (16 - j) (0 : UInt8) = [0] ++ List.replicate (16 - (j + 1)) 0 := by
    rw [show 16 - j = (16 - (j + 1)) + 1 by omega, List.replicate_succ]; rfl
  have e2 : P.take (j + 1) = P.take j ++ [c] := by rw [List.take_add_one, hc]; rfl
  have := splice_at [.str nm] (bys (P.take j)) (bys [0]) (bys [c]) (bys (List.replicate (16 - (j + 1)) 0)) [.int .i64 h] (1 + j) (by simp [len_bytes]; omega) rfl
  rw [e1, e2]
  simpa [Mb.sv, bys, SV.byte] using this
theorem sp_h {nm P : List UInt8} {h x : Int} (hP : P.length = 16) : splice (Mb.sv ⟨nm, P, h⟩) 17 [.int .i64 x] = Mb.sv ⟨nm, P, x⟩ := by
  have := splice_at [.str nm] (bys P) [.int .i64 h] [.int .i64 x] [] [] 17 (by simp [len_bytes, hP]) rfl
  simpa [Mb.sv] using this
theorem sp_zero {v : List SV} (h : v.length = 18) : splice [.str [], .int .u8 0, .int .u8 0, .int .u8 0, .int .u8 0, .int .u8 0, .int .u8 0, .int .u8 0, .int .u8 0, .int .u8 0, .int .u8 0, .int .u8 0, .int .u8 0, .int .u8 0, .int .u8 0, .int .u8 0, .int .u8 0, .int .i64 0] 0 v = v := by
  unfold splice
  rw [List.take_zero, List.drop_of_length_le (by rw [h]; decide)]
  simp
theorem sp2 (a b c d : SV) : splice [a, b, c] 2 [d] = [a, b, d] := (rfl)
def tabY : List (FuncId × GS) := [(48, gGetInts), (49, gGetBytes), (50, gGetIntR), (13, gValidR)]
theorem tabY_ok : ∀ x ∈ tabY, FunS Tryd.prog tS x.1 x.2 := by
  intro x hx
  simp only [tabY, List.mem_cons, List.not_mem_nil, or_false] at hx
  rcases hx with rfl | rfl | rfl | rfl
  · exact gGetInts_ok f48
  · exact gGetBytes_ok f49
  · exact gGetIntR_ok
  · exact gValidR_ok
def MR (t : List UInt8) (a b c : Int) (l : List Mb) : Mem := nlM 4 47 (mcs l) [(3, ⟨.own 24, [.int .i64 a, .int .i64 b, nlS 4 18 l.length]⟩), (2, ⟨.own 3, [.int .i64 a, .int .i64 b, .int .i64 c]⟩), (1, ⟨.own 5, bys t⟩), (0, ⟨.own 24, noC⟩)] l.length
set_option maxHeartbeats 16000000 in
theorem f27 (t : List UInt8) (ht : t.length ≤ 2 ^ 36) :
    Fun Tryd.prog tS 27 [.str t] [] 0 (.tup [.agg [.int .i64 (decodeR t).ep, .int .i64 (decodeR t).need, nlS 0 18 (decodeR t).ms.length], .int .i64 (decodeR t).e]) (nlM 0 47 (mcs (decodeR t).ms) [] (decodeR t).ms.length) (nlN 0 (decodeR t).ms.length) := by
  refine fun_any none (callS tabY cF) (callS_ok tabY_ok cF_ok) chk27 (show 1 ≤ 133 by decide) (Nat.zero_le _) ?_
  unfold sf27
  have fl := flat_bytes t
  rcases hx : intsS t with ⟨l, u, e⟩
  have hu : u ≤ t.length := (ints_facts hx).1
  by_cases he : e = 0
  · subst he
    by_cases hl3 : l.length = 3
    · obtain ⟨a, b, c, rfl⟩ : ∃ a b c, l = [a, b, c] := by
        match l, hl3 with
        | [a, b, c], _ => exact ⟨a, b, c, rfl⟩
      have h0 : 0 < ([a, b, c] : List Int).length := by simp
      have i3 : ints [a, b, c] = [.int .i64 a, .int .i64 b, .int .i64 c] := rfl
      have hd0 : decodeR t = if c < 1 ∨ c > 16 then ⟨0, 0, [], 6⟩ else
          if (refMs t c.toNat u).2.2 ≠ 0 then ⟨0, 0, [], (refMs t c.toNat u).2.2⟩ else if (refMs t c.toNat u).2.1 ≠ t.length ∨ validB a b (refMs t c.toNat u).1 = false then ⟨0, 0, [], 6⟩ else
          ⟨a, b, (refMs t c.toNat u).1, 0⟩ := by unfold decodeR; rw [hx]; simp
      by_cases c1 : c < 1
      · have hd : decodeR t = ⟨0, 0, [], 6⟩ := by rw [hd0, if_pos (Or.inl c1)]
        simp (config := { maxSteps := 1000000 }) only [tabY, gGetInts, unB_bytes, ht, fl, hx, rI, hd, i3, c1, and_self, undef, Int.reduceBNe, lookF, setv, reduceCtorEq, Nat.reduceEqDiff, Nat.reduceAdd, Nat.reduceSub, Nat.reduceLT, Int.reduceToNat, Int.reduceLT, Int.reduceLE, eq_self, decide_true, Int.cast_ofNat_Int,  true_and, and_true, List.getElem?_cons_zero, List.getElem?_cons_succ, List.length_cons, List.length_nil, List.append_nil, List.nil_append, List.cons_append, List.take_succ_cons, List.take_zero, List.drop_succ_cons, List.drop_zero, List.take_nil, List.drop_nil, List.map_cons, List.map_nil, Nat.zero_add, Nat.add_zero, frOf, den_nil, den_o0, ↓gd_tt, ↓gd_tf, ↓gd_ft, den_o1, kont_app, den_g, setv, Bool.not_false, den_skip, den_reg, Bool.not_false, den_seq, den_cond, den_ret, den_rc, finE_r, ↓reduceIte, ↓e_build, ↓e_load, ↓e_store, ↓e_idxS, ↓e_ext, ↓e_mv, ↓e_pick, ↓e_new, ↓e_bin, ↓e_s2b, ↓e_call, ↓e_len, ↓u_binV, ↓binI, ↓fillE, ↓evRes, Opd.ev, Sx.get, put, putO, del, dels, rd, upd, splice, SV.cells?, retOf, ↓u_callS, canLW, canV, canC, belowL, apH, apH1, eta, SV.ren, SV.renL, newOwn, targets, rms, Kind.isOwn, List.getElem?_nil, Option.getD_none, Nat.le_refl, take_bytes, nlS_0, nlS_1, nlM_0, nlM_1, nlN_0, nlN_1, map_byte, len_bytes, Nat.mul_one, Int.cast_ofNat_Int]
        exact ⟨[], by simp [EntM, compat, apartM, keysBelow, idHs, List.length_nil, List.take_nil, and_self]⟩
      by_cases c2 : c > 16
      · have hd : decodeR t = ⟨0, 0, [], 6⟩ := by rw [hd0, if_pos (Or.inr c2)]
        simp (config := { maxSteps := 1000000 }) only [tabY, gGetInts, unB_bytes, ht, fl, hx, rI, hd, i3, c1, c2, and_self, Int.reduceBNe, lookF, setv, reduceCtorEq, Nat.reduceEqDiff, Nat.reduceAdd, Nat.reduceSub, Nat.reduceLT, Int.reduceToNat, Int.reduceLT, Int.reduceLE, eq_self, decide_true, decide_false, Int.cast_ofNat_Int,  true_and, and_true, List.getElem?_cons_zero, List.getElem?_cons_succ, List.length_cons, List.length_nil, List.append_nil, List.nil_append, List.cons_append, List.take_succ_cons, List.take_zero, List.drop_succ_cons, List.drop_zero, List.take_nil, List.drop_nil, List.map_cons, List.map_nil, Nat.zero_add, Nat.add_zero, frOf, den_nil, den_o0, ↓gd_tt, ↓gd_ff, ↓gd_ft, den_o1, kont_app, den_g, setv, den_skip, den_reg, den_seq, den_cond, den_ret, den_rc, finE_r, ↓reduceIte, ↓e_build, ↓e_load, ↓e_store, ↓e_idxS, ↓e_ext, ↓e_mv, ↓e_pick, ↓e_new, ↓e_bin, ↓e_s2b, ↓e_call, ↓e_len, ↓u_binV, ↓binI, ↓fillE, ↓evRes, Opd.ev, Sx.get, put, putO, del, dels, rd, upd, splice, SV.cells?, retOf, ↓u_callS, canLW, canV, canC, belowL, apH, apH1, eta, SV.ren, SV.renL, newOwn, targets, rms, Kind.isOwn, List.getElem?_nil, Option.getD_none, Nat.le_refl, take_bytes, nlS_0, nlS_1, nlM_0, nlM_1, nlN_0, nlN_1, map_byte, len_bytes, Nat.mul_one, Int.cast_ofNat_Int]
        exact ⟨[], by simp [EntM, compat, apartM, keysBelow, idHs, List.length_nil, List.take_nil, and_self]⟩
      rw [if_neg (by omega)] at hd0
      obtain ⟨n, rfl⟩ : ∃ n : Nat, c = (n : Int) := ⟨c.toNat, by omega⟩
      rw [Int.toNat_natCast] at hd0
      simp (config := { maxSteps := 1000000 }) only [tabY, gGetInts, unB_bytes, ht, fl, hx, rI, i3, c1, c2, Int.le_refl, and_self, Int.reduceBNe, lookF, setv, reduceCtorEq, Nat.reduceEqDiff, Nat.reduceAdd, Nat.reduceSub, Nat.reduceLeDiff, Nat.reduceLT, Int.reduceToNat, Int.reduceLT, Int.reduceLE, eq_self, decide_false, Int.cast_ofNat_Int,  true_and, List.getElem?_cons_zero, List.getElem?_cons_succ, List.length_cons, List.length_nil, List.append_nil, List.nil_append, List.cons_append, List.take_succ_cons, List.take_zero, List.drop_succ_cons, List.drop_zero, List.drop_nil, List.reverse_cons, List.reverse_nil, List.map_cons, List.map_nil, Nat.zero_add, Nat.add_zero, frOf, den_o0, ↓gd_ff, ↓gd_ft, den_o1, kont_app, den_g, setv, den_skip, den_reg, den_regD, den_A, den_seq, den_cond, den_block, ↓reduceIte, ↓e_build, ↓e_load, ↓e_store, ↓e_idxS, ↓e_ext, ↓e_mv, ↓e_pick, ↓e_new, ↓e_bin, ↓e_s2b, ↓e_call, ↓e_len, ↓u_binV, ↓binI, ↓fillE, evA, Opd.ev, Sx.get, put, putO, del, dels, frD, memD, pickD, kills, views, newer, rd, upd, splice, SV.cells?, SV.one, ↓u_callS, canLW, canV, canC, belowL, apH, apH1, eta, SV.ren, SV.renL, newOwn, targets, rms, Kind.isOwn, List.getElem?_nil, Option.getD_none, Nat.le_refl, take_bytes, nlS_1, nlM_1, nlN_1, map_byte, len_bytes, Nat.mul_one, Int.cast_ofNat_Int]
      rw [den_loop]
      refine den_inv (callS_ok tabY_ok cF_ok) (σ := Nat × Nat × List Mb) (fun s => [(9, .int .i64 (s.1 : Int)), (8, .ptr 3 0), (6, .int .i64 (s.2.1 : Int)), (5, .slc 2 0 1 3 none), (4, .slc 1 0 1 t.length none), (2, .ptr 0 0)])
        (fun s => MR t a b n s.2.2) (fun s => nlN 4 s.2.2.length) (fun s => s.1 ≤ n ∧ s.2.1 ≤ t.length ∧ s.2.2.length = s.1 ∧ Pub s.2.2 ∧ refMs t n u = preM s.2.2 (refMs t (n - s.1) s.2.1)) (fun s => n - s.1) (0, u, []) ?_ ⟨Nat.zero_le _, hu, rfl, (fun m hm => by cases hm), (preM_nil _).symm⟩ ?_
      · exact ⟨[(0, 0), (1, 0), (2, 0), (3, 0)], by simp only [MR, noC, nlS, nlM, nlN, List.length_nil, EntM, compat, apartM, keysBelow, eta, idHs, rd, SV.ren, SV.renL, Option.getD_some, List.getElem?_cons_zero, List.getElem?_cons_succ, List.length_cons, List.length_nil, Nat.zero_add, Nat.add_zero, Nat.reduceAdd, Nat.reduceSub, Nat.reduceEqDiff, Nat.reduceLT, Nat.reduceLeDiff, ↓reduceIte, Kind.isOwn, List.take_zero, and_self, true_and, exists_eq_left', Option.some.injEq, ne_eq, not_false_eq_true, implies_true, List.not_mem_nil, false_imp_iff, Bool.true_or, forall_const, reduceCtorEq, List.mem_cons, or_false, forall_eq_or_imp, forall_eq, Nat.succ_ne_self, ren_bytes], by simp [frEnt, geto, eta, SV.ren, Option.getD_some, List.length_cons, List.length_nil, Nat.zero_add, Nat.add_zero, Nat.reduceAdd, Nat.reduceEqDiff, Nat.reduceLT, Nat.reduceLeDiff, ↓reduceIte, and_self, Nat.succ_ne_self]⟩
      rintro ⟨i, z, l⟩ ⟨hi, hz, hl, hP, hinv⟩
      simp only at hi hz hl hP hinv
      by_cases hin : i < n
      · have c1 : (i : Int) < (n : Int) := by omega
        have wi : IntKind.i64.wrap ((i : Int) + 1) = ((i + 1 : Nat) : Int) := by rw [wrap64_eq (by omega) (by omega)]; omega
        rw [show n - i = (n - (i + 1)) + 1 by omega, refMs_succ] at hinv
        rcases hq : bytS (t.drop z) with ⟨nm, q, e⟩
        simp only [hq] at hinv
        have k1 : (0 : Int) ≤ (z : Int) := by omega
        have k2 : (z : Int) ≤ (t.length : Int) := by omega
        have fz := flat_bytes (t.drop z)
        have hlz : (t.drop z).length = t.length - z := by simp
        have k4 : z + (t.length - z) ≤ t.length := by omega
        have tk : List.take (t.length - z) (bys (t.drop z)) = bys (t.drop z) := List.take_of_length_le (by rw [len_bytes]; simp)
        have hb2 : t.length - z ≤ 2 ^ 40 := by omega
        rcases Nat.eq_zero_or_pos l.length with h0 | h0
        · have l0 : l = [] := List.length_eq_zero_iff.1 h0
          simp only [MR, nlS_z h0, nlM_z h0, nlN_z h0]
          by_cases hee : e = 0
          · subst hee
            have hzq : z + q ≤ t.length := by
              rcases byt_err hq with ⟨_, h2, _⟩ | ⟨h, _⟩
              · simp at h2; omega
              · exact absurd rfl h
            have w1 : IntKind.i64.wrap ((z : Int) + (q : Int)) = ((z + q : Nat) : Int) := by rw [wrap64_eq (by omega) (by omega)]; omega
            have w2 : IntKind.i64.wrap ((t.length : Int) - ((z + q : Nat) : Int)) = ((t.length - (z + q) : Nat) : Int) := by rw [wrap64_eq (by omega) (by omega)]; omega
            rw [if_neg (by simp)] at hinv
            by_cases h16 : t.length - (z + q) < 16
            · have c3 : ((t.length - (z + q) : Nat) : Int) < 16 := by omega
              rw [if_pos h16, preM_err (by decide)] at hinv
              have hd : decodeR t = ⟨0, 0, [], 5⟩ := by rw [hd0, hinv]; rfl
              simp (config := { maxSteps := 1000000 }) only [noC, gGetBytes, unB_bytes, drop_bys, Option.map_none, Int.le_refl, hlz, k1, k2, k4, tk, hb2, hq, tupB, fz, c1, w1, w2, c3, hd, and_self, Int.reduceBNe, lookF, again_r, reduceCtorEq, Nat.reduceEqDiff, Nat.reduceAdd, Nat.reduceSub, Nat.reduceLT, Int.reduceToNat, Int.reduceLT, Int.reduceLE, eq_self, decide_true, Int.cast_ofNat_Int,  true_and, and_true, List.getElem?_cons_zero, List.getElem?_cons_succ, List.length_cons, List.length_nil, List.append_nil, List.nil_append, List.take_succ_cons, List.take_zero, List.drop_succ_cons, List.drop_zero, List.take_nil, List.drop_nil, List.map_cons, List.map_nil, Nat.zero_add, Nat.add_zero, den_nil, den_o0, ↓gd_tt, ↓gd_ft, den_o1, kont_app, den_skip, den_reg, den_seq, den_cond, den_block, den_ret, den_rb, den_rc, finE_r, ↓reduceIte, ↓e_build, ↓e_load, ↓e_store, ↓e_idxS, ↓e_slcS, ↓e_ext, ↓e_mv, ↓e_bin, ↓e_call, ↓e_len, ↓u_onOpt0, ↓u_onOpt1, ↓u_binV, ↓binI, ↓fillE, ↓evRes, Opd.ev, Sx.get, put, putO, del, dels, rd, upd, splice, SV.cells?, retOf, ↓u_callS, canLW, canV, canC, belowL, apH, apH1, SV.ren, SV.renL, newOwn, targets, rms, Kind.isOwn, Nat.le_refl, nlS_0, nlM_0, nlN_0, len_bytes, Int.toNat_natCast, Nat.mul_one, Int.cast_ofNat_Int]
              exact ⟨[], rfl, by simp [compat, apartM, keysBelow, idHs, List.take_nil, and_self]⟩
            have c3 : ¬ ((t.length - (z + q) : Nat) : Int) < 16 := by omega
            rw [if_neg h16] at hinv
            have hPl : ((t.drop (z + q)).take 16).length = 16 := by simp; omega
            generalize hPP : (t.drop (z + q)).take 16 = P at *
            simp (config := { maxSteps := 1000000 }) only [noC, gGetBytes, unB_bytes, drop_bys, Option.map_none, Int.le_refl, hlz, k1, k2, k4, tk, hb2, hq, tupB, fz, c1, w1, w2, c3, and_self, Int.reduceBNe, lookF, reduceCtorEq, Nat.reduceEqDiff, Nat.reduceAdd, Nat.reduceSub, Nat.reduceLeDiff, Nat.reduceLT, Int.reduceToNat, Int.reduceLT, Int.reduceLE, eq_self, decide_true, decide_false, Int.cast_ofNat_Int,  true_and, List.getElem?_cons_zero, List.getElem?_cons_succ, List.length_cons, List.length_nil, List.append_nil, List.nil_append, List.cons_append, List.take_zero, List.drop_succ_cons, List.drop_zero, List.drop_nil, List.map_cons, List.map_nil, Nat.zero_add, Nat.add_zero, den_o0, ↓gd_tt, ↓gd_ft, den_o1, kont_app, den_skip, den_reg, den_seq, den_cond, den_block, ↓reduceIte, ↓e_build, ↓e_load, ↓e_store, ↓e_idxS, ↓e_slcS, ↓e_ext, ↓e_mv, ↓e_new, ↓e_bin, ↓e_call, ↓e_len, ↓u_onOpt0, ↓u_onOpt1, ↓u_binV, ↓binI, ↓fillE, Opd.ev, Sx.get, put, putO, del, dels, rd, upd, splice, SV.cells?, SV.one, ↓u_callS, canLW, canV, canC, belowL, apH, apH1, SV.ren, SV.renL, newOwn, targets, rms, Kind.isOwn, Nat.le_refl, len_bytes, Int.toNat_natCast, Nat.mul_one, Int.cast_ofNat_Int]
            rw [den_loop]
            refine den_inv (callS_ok tabY_ok cF_ok) (σ := Nat) (fun j => [(14, .int .i64 (j : Int)), (13, .ptr 4 0), (6, .int .i64 ((z + q : Nat) : Int)), (9, .int .i64 (i : Int)), (8, .ptr 3 0), (5, .slc 2 0 1 3 none), (4, .slc 1 0 1 t.length none), (2, .ptr 0 0)])
              (fun j => (4, ⟨.own 47, Mb.sv ⟨nm, P.take j ++ List.replicate (16 - j) 0, 0⟩⟩) :: MR t a b n l) (fun _ => 5) (fun j => j ≤ 16) (fun j => 16 - j) 0 ?_ (Nat.zero_le _) ?_
            · exact ⟨[(0, 0), (1, 0), (2, 0), (3, 0), (4, 0)], by simp only [MR, nlS_z h0, nlM_z h0, noC, ren_mb, List.take_zero, List.nil_append, Nat.sub_zero, EntM, compat, apartM, keysBelow, eta, idHs, rd, SV.ren, SV.renL, Option.getD_some, List.getElem?_cons_zero, List.getElem?_cons_succ, List.length_cons, List.length_nil, Nat.zero_add, Nat.add_zero, Nat.reduceAdd, Nat.reduceSub, Nat.reduceEqDiff, Nat.reduceLT, Nat.reduceLeDiff, ↓reduceIte, Kind.isOwn, List.take_zero, List.nil_append, and_self, and_true, true_and, exists_eq_left', Option.some.injEq, ne_eq, not_false_eq_true, implies_true, List.not_mem_nil, false_imp_iff, Bool.true_or, forall_const, reduceCtorEq, List.mem_cons, or_false, forall_eq_or_imp, forall_eq, Nat.succ_ne_self, ren_bytes]; rfl, by simp [frEnt, geto, eta, SV.ren, Option.getD_some, List.length_cons, List.length_nil, Nat.zero_add, Nat.add_zero, Nat.reduceAdd, Nat.reduceEqDiff, Nat.reduceLT, Nat.reduceLeDiff, ↓reduceIte, and_self, Nat.succ_ne_self]⟩
            intro j hj
            by_cases hj16 : j < 16
            · have d1 : (j : Int) < 16 := by omega
              have wj : IntKind.i64.wrap ((j : Int) + 1) = ((j + 1 : Nat) : Int) := by rw [wrap64_eq (by omega) (by omega)]; omega
              have wz : IntKind.i64.wrap (((z + q : Nat) : Int) + (j : Int)) = ((z + q + j : Nat) : Int) := by rw [wrap64_eq (by omega) (by omega)]; omega
              have z0 : (0 : Int) ≤ ((z + q + j : Nat) : Int) := by omega
              have z1 : z + q + j < t.length := by omega
              have j0 : (0 : Int) ≤ (j : Int) := by omega
              have z2 : ((z + q + j : Nat) : Int) < (t.length : Int) := by omega
              obtain ⟨c, hc⟩ : ∃ c, t[z + q + j]? = some c := ⟨_, List.getElem?_eq_getElem z1⟩
              have gz : (bys t)[z + q + j]? = some (.int .u8 (c.toNat : Int)) := by simp only [bys, List.getElem?_map, hc, Option.map_some]; rfl
              have hPj : P[j]? = some c := by rw [← hPP, List.getElem?_take_of_lt hj16, List.getElem?_drop]; exact hc
              have hsp := sp_pub (nm := nm) (h := 0) hPl hPj hj16
              have svl : ∀ X : List UInt8, (Mb.sv ⟨nm, P.take j ++ List.replicate (16 - j) 0, 0⟩).length = 18 := fun _ => Mb.sv_len (by simp; omega)
              have svl := svl []
              have j18 : 1 + j + 1 ≤ 18 := by omega
              simp (config := { maxSteps := 1000000 }) only [nlS_z h0, nlM_z h0, noC, MR, d1, wj, wz, z0, z1, z2, j0, gz, svl, j18, hsp, again_n, reduceCtorEq, Nat.reduceEqDiff, eq_self, decide_true, Int.cast_ofNat_Int,  true_and, List.length_cons, List.length_nil, List.map_cons, List.map_nil, Nat.zero_add, den_nil, den_o0, ↓gd_tt, den_o1, kont_app, den_skip, den_reg, den_seq, den_cond, den_block, den_b, ↓reduceIte, ↓e_load, ↓e_store, ↓e_idxS, ↓e_mv, ↓e_fld, ↓e_idxA, ↓e_bin, ↓u_onInt, ↓u_binV, ↓binI, Opd.ev, Sx.get, put, putO, del, dels, rd, upd, SV.cells?, SV.one, len_bytes, Int.toNat_natCast, Nat.mul_one, Int.cast_ofNat_Int]
              exact ⟨j + 1, ⟨[(0, 0), (1, 0), (2, 0), (3, 0), (4, 0)], by simp only [ren_mb, EntM, compat, apartM, keysBelow, eta, idHs, rd, SV.ren, SV.renL, Option.getD_some, List.getElem?_cons_zero, List.getElem?_cons_succ, List.length_cons, List.length_nil, Nat.zero_add, Nat.add_zero, Nat.reduceAdd, Nat.reduceSub, Nat.reduceEqDiff, Nat.reduceLT, Nat.reduceLeDiff, ↓reduceIte, Kind.isOwn, List.take_zero, and_self, true_and, exists_eq_left', Option.some.injEq, ne_eq, not_false_eq_true, implies_true, List.not_mem_nil, false_imp_iff, Bool.true_or, forall_const, reduceCtorEq, List.mem_cons, or_false, forall_eq_or_imp, forall_eq, Nat.succ_ne_self, ren_bytes], by simp [frEnt, geto, eta, SV.ren, Option.getD_some, List.length_cons, List.length_nil, Nat.zero_add, Nat.add_zero, Nat.reduceAdd, Nat.reduceEqDiff, Nat.reduceLT, Nat.reduceLeDiff, ↓reduceIte, and_self, Nat.succ_ne_self]⟩, by omega, by omega⟩
            · obtain rfl : j = 16 := by omega
              have hP16 : P.take 16 ++ List.replicate (16 - 16) 0 = P := by rw [List.take_of_length_le (by omega)]; simp
              have w3 : IntKind.i64.wrap (((z + q : Nat) : Int) + 16) = ((z + q + 16 : Nat) : Int) := by rw [wrap64_eq (by omega) (by omega)]; omega
              rcases hr : decS (t.drop (z + q + 16)) with ⟨x, q2, e2⟩
              simp only [hr] at hinv
              have r1 : (0 : Int) ≤ ((z + q + 16 : Nat) : Int) := by omega
              have r2 : ((z + q + 16 : Nat) : Int) ≤ (t.length : Int) := by omega
              have fr := flat_bytes (t.drop (z + q + 16))
              have hlr : (t.drop (z + q + 16)).length = t.length - (z + q + 16) := by simp
              have r4 : z + q + 16 + (t.length - (z + q + 16)) ≤ t.length := by omega
              have rk : List.take (t.length - (z + q + 16)) (bys (t.drop (z + q + 16))) = bys (t.drop (z + q + 16)) := List.take_of_length_le (by rw [len_bytes]; simp)
              have hb3 : t.length - (z + q + 16) ≤ 2 ^ 40 := by omega
              have svl : (Mb.sv ⟨nm, P, 0⟩).length = 18 := Mb.sv_len hPl
              have c3' : ¬ ((16 : Nat) : Int) < 16 := by decide
              by_cases hee2 : e2 = 0
              · subst hee2
                have hzq2 : z + q + 16 + q2 ≤ t.length := by
                  rcases dec_err hr with ⟨_, _, h2, _⟩ | ⟨h, _, _⟩
                  · simp at h2; omega
                  · exact absurd rfl h
                have w4 : IntKind.i64.wrap (((z + q + 16 : Nat) : Int) + (q2 : Int)) = ((z + q + 16 + q2 : Nat) : Int) := by rw [wrap64_eq (by omega) (by omega)]; omega
                rw [if_neg (by simp)] at hinv
                rw [preM_pre] at hinv
                have hsx := sp_h (nm := nm) (h := 0) (x := x) hPl
                have svx : (Mb.sv ⟨nm, P, x⟩).length = 18 := Mb.sv_len hPl
                have tkx : List.take 18 (Mb.sv ⟨nm, P, x⟩) = Mb.sv ⟨nm, P, x⟩ := List.take_of_length_le (by omega)
                have hsz := sp_zero svx
                have hml := len_mcs hP
                have hrx : ∀ η, SV.renL η (Mb.sv ⟨nm, P, x⟩) = Mb.sv ⟨nm, P, x⟩ := fun η => ren_mb η _
                have hmx : mcs (l ++ [⟨nm, P, x⟩]) = mcs l ++ Mb.sv ⟨nm, P, x⟩ := by rw [mcs_app]; simp [mcs]
                have hPx : Pub (l ++ [⟨nm, P, x⟩]) := fun m hm => by
                  rcases List.mem_append.1 hm with hm | hm
                  · exact hP m hm
                  · rw [List.mem_singleton] at hm; subst hm; exact hPl
                have hlx : 0 < (l ++ [(⟨nm, P, x⟩ : Mb)]).length := by simp
                generalize hvx : Mb.sv ⟨nm, P, x⟩ = vx at *
                simp (config := { maxSteps := 1000000 }) only [nlS_z h0, nlM_z h0, noC, MR, gGetIntR, unB_bytes, capB, drop_bys, Option.map_none, Int.le_refl, hP16, w3, w4, hr, r1, r2, fr, hlr, r4, rk, hb3, svl, tup3, wi, hsx, svx, tkx, hsz, sp2, and_self, Int.reduceBNe, lookF, again_n, again_x, reduceCtorEq, Nat.reduceEqDiff, Nat.reduceAdd, Nat.reduceSub, Nat.reduceMul, Nat.reduceLT, Int.reduceLT, eq_self, decide_false, Int.cast_ofNat_Int,  true_and, List.getElem?_cons_zero, List.getElem?_cons_succ, List.length_cons, List.length_nil, List.append_nil, List.nil_append, List.drop_zero, List.map_cons, List.map_nil, Nat.zero_add, Nat.add_zero, den_nil, den_o0, ↓gd_ft, den_o1, kont_app, den_skip, den_reg, den_seq, den_cond, den_exit, den_b, den_xb, den_xc, ↓reduceIte, ↓e_bslice, ↓e_load, ↓e_store, ↓e_slcS, ↓e_ext, ↓e_app, ↓e_mv, ↓e_fld, ↓e_bin, ↓e_call, ↓u_onOpt0, ↓u_onOpt1, ↓u_binV, ↓u_srcOf, ↓u_srcSl, ↓binI, ↓fillE, Opd.ev, Sx.get, put, putO, del, dels, rd, upd, SV.cells?, SV.one, ↓u_callS, canLW, canV, canC, belowL, apH, apH1, SV.ren, SV.renL, newOwn, targets, rms, Kind.isOwn, Nat.le_refl, len_bytes, Int.toNat_natCast, Nat.mul_one, Int.cast_ofNat_Int]
                subst l0
                refine ⟨by decide, by decide, (i + 1, z + q + 16 + q2, [⟨nm, P, x⟩]), ⟨[(0, 0), (1, 0), (2, 0), (3, 0), (6, 0)], ?_, by simp [frEnt, geto, eta, SV.ren, Option.getD_some, List.length_cons, List.length_nil, Nat.zero_add, Nat.add_zero, Nat.reduceAdd, Nat.reduceEqDiff, Nat.reduceLT, Nat.reduceLeDiff, ↓reduceIte, and_self, Nat.succ_ne_self]⟩, ⟨by simp only; omega, hzq2, by simp at hl; simp; omega, hPx, hinv⟩, by simp only; omega⟩
                have hm1 : mcs [(⟨nm, P, x⟩ : Mb)] = vx := by simpa [mcs] using hmx
                simp only [nlS, nlM, hm1, hrx, EntM, compat, apartM, keysBelow, eta, idHs, rd, SV.ren, SV.renL, Option.getD_some, List.getElem?_cons_zero, List.getElem?_cons_succ, List.length_cons, List.length_nil, Nat.zero_add, Nat.add_zero, Nat.reduceAdd, Nat.reduceSub, Nat.reduceEqDiff, Nat.reduceLT, Nat.reduceLeDiff, ↓reduceIte, Kind.isOwn, List.take_zero, and_self, true_and, exists_eq_left', Option.some.injEq, ne_eq, not_false_eq_true, implies_true, List.not_mem_nil, false_imp_iff, Bool.true_or, forall_const, reduceCtorEq, List.mem_cons, or_false, forall_eq_or_imp, forall_eq, Nat.succ_ne_self, ren_bytes, nlN_1]
              · have hbb : (e2 != 0) = true := by simpa using hee2
                rw [if_pos hee2, preM_err hee2] at hinv
                have hd : decodeR t = ⟨0, 0, [], e2⟩ := by rw [hd0, hinv]; simp [hee2]
                simp (config := { maxSteps := 1000000 }) only [nlS_z h0, nlM_z h0, noC, MR, gGetIntR, unB_bytes, capB, drop_bys, Option.map_none, Int.le_refl, hP16, w3, hr, r1, r2, fr, hlr, r4, rk, hb3, tup3, hbb, hd, and_self, lookF, again_x, again_r, reduceCtorEq, Nat.reduceEqDiff, Nat.reduceAdd, Nat.reduceSub, Nat.reduceLT, Int.reduceLT, eq_self, decide_false, Int.cast_ofNat_Int,  true_and, and_true, List.getElem?_cons_zero, List.getElem?_cons_succ, List.length_cons, List.length_nil, List.append_nil, List.nil_append, List.take_succ_cons, List.take_zero, List.drop_succ_cons, List.drop_zero, List.take_nil, List.drop_nil, List.map_cons, List.map_nil, Nat.zero_add, Nat.add_zero, den_nil, den_o0, ↓gd_tt, ↓gd_ft, den_o1, kont_app, den_reg, den_seq, den_cond, den_exit, den_ret, den_xb, den_xc, den_rb, den_rc, finE_r, ↓reduceIte, ↓e_build, ↓e_load, ↓e_store, ↓e_slcS, ↓e_ext, ↓e_mv, ↓e_bin, ↓e_call, ↓u_onOpt0, ↓u_onOpt1, ↓u_binV, ↓binI, ↓fillE, ↓evRes, Opd.ev, Sx.get, put, putO, del, dels, rd, upd, splice, SV.cells?, retOf, ↓u_callS, canLW, canV, canC, belowL, apH, apH1, SV.ren, SV.renL, newOwn, targets, rms, Kind.isOwn, Nat.le_refl, nlS_0, nlM_0, nlN_0, len_bytes, Int.toNat_natCast, Nat.mul_one, Int.cast_ofNat_Int]
                exact ⟨[], rfl, by simp [compat, apartM, keysBelow, idHs, List.take_nil, and_self]⟩
          · have hbb : (e != 0) = true := by simpa using hee
            rw [if_pos hee, preM_err hee] at hinv
            have hd : decodeR t = ⟨0, 0, [], e⟩ := by rw [hd0, hinv]; simp [hee]
            simp (config := { maxSteps := 1000000 }) only [noC, gGetBytes, unB_bytes, drop_bys, Option.map_none, Int.le_refl, hlz, k1, k2, k4, tk, hb2, hq, tupB, fz, c1, hbb, hd, and_self, lookF, again_r, reduceCtorEq, Nat.reduceEqDiff, Nat.reduceAdd, Nat.reduceSub, Nat.reduceLT, Int.reduceToNat, Int.reduceLT, Int.reduceLE, eq_self, decide_true, Int.cast_ofNat_Int,  true_and, and_true, List.getElem?_cons_zero, List.getElem?_cons_succ, List.length_cons, List.length_nil, List.append_nil, List.nil_append, List.take_succ_cons, List.take_zero, List.drop_succ_cons, List.drop_zero, List.take_nil, List.drop_nil, List.map_cons, List.map_nil, Nat.zero_add, Nat.add_zero, den_nil, den_o0, ↓gd_tt, den_o1, kont_app, den_skip, den_reg, den_seq, den_cond, den_block, den_ret, den_rb, den_rc, finE_r, ↓reduceIte, ↓e_build, ↓e_load, ↓e_store, ↓e_idxS, ↓e_slcS, ↓e_ext, ↓e_mv, ↓e_bin, ↓e_call, ↓u_onOpt0, ↓u_onOpt1, ↓u_binV, ↓binI, ↓fillE, ↓evRes, Opd.ev, Sx.get, put, putO, del, dels, rd, upd, splice, SV.cells?, retOf, ↓u_callS, canLW, canV, canC, belowL, apH, apH1, SV.ren, SV.renL, newOwn, targets, rms, Kind.isOwn, Nat.le_refl, nlS_0, nlM_0, nlN_0, len_bytes, Int.toNat_natCast, Nat.mul_one, Int.cast_ofNat_Int]
            exact ⟨[], rfl, by simp [compat, apartM, keysBelow, idHs, List.take_nil, and_self]⟩
        · simp only [MR, nlS_p h0, nlM_p h0, nlN_p h0]
          by_cases hee : e = 0
          · subst hee
            have hzq : z + q ≤ t.length := by
              rcases byt_err hq with ⟨_, h2, _⟩ | ⟨h, _⟩
              · simp at h2; omega
              · exact absurd rfl h
            have w1 : IntKind.i64.wrap ((z : Int) + (q : Int)) = ((z + q : Nat) : Int) := by rw [wrap64_eq (by omega) (by omega)]; omega
            have w2 : IntKind.i64.wrap ((t.length : Int) - ((z + q : Nat) : Int)) = ((t.length - (z + q) : Nat) : Int) := by rw [wrap64_eq (by omega) (by omega)]; omega
            rw [if_neg (by simp)] at hinv
            by_cases h16 : t.length - (z + q) < 16
            · have c3 : ((t.length - (z + q) : Nat) : Int) < 16 := by omega
              rw [if_pos h16, preM_err (by decide)] at hinv
              have hd : decodeR t = ⟨0, 0, [], 5⟩ := by rw [hd0, hinv]; rfl
              simp (config := { maxSteps := 1000000 }) only [noC, gGetBytes, unB_bytes, drop_bys, Option.map_none, Int.le_refl, hlz, k1, k2, k4, tk, hb2, hq, tupB, fz, c1, w1, w2, c3, hd, and_self, Int.reduceBNe, lookF, again_r, reduceCtorEq, Nat.reduceEqDiff, Nat.reduceAdd, Nat.reduceSub, Nat.reduceLT, Int.reduceToNat, Int.reduceLT, Int.reduceLE, eq_self, decide_true, Int.cast_ofNat_Int,  true_and, and_true, List.getElem?_cons_zero, List.getElem?_cons_succ, List.length_cons, List.length_nil, List.append_nil, List.nil_append, List.take_succ_cons, List.take_zero, List.drop_succ_cons, List.drop_zero, List.take_nil, List.drop_nil, List.map_cons, List.map_nil, Nat.zero_add, Nat.add_zero, den_nil, den_o0, ↓gd_tt, ↓gd_ft, den_o1, kont_app, den_skip, den_reg, den_seq, den_cond, den_block, den_ret, den_rb, den_rc, finE_r, ↓reduceIte, ↓e_build, ↓e_load, ↓e_store, ↓e_idxS, ↓e_slcS, ↓e_ext, ↓e_mv, ↓e_bin, ↓e_call, ↓e_len, ↓u_onOpt0, ↓u_onOpt1, ↓u_binV, ↓binI, ↓fillE, ↓evRes, Opd.ev, Sx.get, put, putO, del, dels, rd, upd, splice, SV.cells?, retOf, ↓u_callS, canLW, canV, canC, belowL, apH, apH1, SV.ren, SV.renL, newOwn, targets, rms, Kind.isOwn, Nat.le_refl, nlS_0, nlM_0, nlN_0, len_bytes, Int.toNat_natCast, Nat.mul_one, Int.cast_ofNat_Int]
              exact ⟨[], rfl, by simp [compat, apartM, keysBelow, idHs, List.take_nil, and_self]⟩
            have c3 : ¬ ((t.length - (z + q) : Nat) : Int) < 16 := by omega
            rw [if_neg h16] at hinv
            have hPl : ((t.drop (z + q)).take 16).length = 16 := by simp; omega
            generalize hPP : (t.drop (z + q)).take 16 = P at *
            simp (config := { maxSteps := 1000000 }) only [noC, gGetBytes, unB_bytes, drop_bys, Option.map_none, Int.le_refl, hlz, k1, k2, k4, tk, hb2, hq, tupB, fz, c1, w1, w2, c3, and_self, Int.reduceBNe, lookF, reduceCtorEq, Nat.reduceEqDiff, Nat.reduceAdd, Nat.reduceSub, Nat.reduceLeDiff, Nat.reduceLT, Int.reduceToNat, Int.reduceLT, Int.reduceLE, eq_self, decide_true, decide_false, Int.cast_ofNat_Int,  true_and, List.getElem?_cons_zero, List.getElem?_cons_succ, List.length_cons, List.length_nil, List.append_nil, List.nil_append, List.cons_append, List.take_zero, List.drop_succ_cons, List.drop_zero, List.drop_nil, List.map_cons, List.map_nil, Nat.zero_add, Nat.add_zero, den_o0, ↓gd_tt, ↓gd_ft, den_o1, kont_app, den_skip, den_reg, den_seq, den_cond, den_block, ↓reduceIte, ↓e_build, ↓e_load, ↓e_store, ↓e_idxS, ↓e_slcS, ↓e_ext, ↓e_mv, ↓e_new, ↓e_bin, ↓e_call, ↓e_len, ↓u_onOpt0, ↓u_onOpt1, ↓u_binV, ↓binI, ↓fillE, Opd.ev, Sx.get, put, putO, del, dels, rd, upd, splice, SV.cells?, SV.one, ↓u_callS, canLW, canV, canC, belowL, apH, apH1, SV.ren, SV.renL, newOwn, targets, rms, Kind.isOwn, Nat.le_refl, len_bytes, Int.toNat_natCast, Nat.mul_one, Int.cast_ofNat_Int]
            rw [den_loop]
            refine den_inv (callS_ok tabY_ok cF_ok) (σ := Nat) (fun j => [(14, .int .i64 (j : Int)), (13, .ptr 5 0), (6, .int .i64 ((z + q : Nat) : Int)), (9, .int .i64 (i : Int)), (8, .ptr 3 0), (5, .slc 2 0 1 3 none), (4, .slc 1 0 1 t.length none), (2, .ptr 0 0)])
              (fun j => (5, ⟨.own 47, Mb.sv ⟨nm, P.take j ++ List.replicate (16 - j) 0, 0⟩⟩) :: MR t a b n l) (fun _ => 6) (fun j => j ≤ 16) (fun j => 16 - j) 0 ?_ (Nat.zero_le _) ?_
            · exact ⟨[(0, 0), (1, 0), (2, 0), (3, 0), (4, 0), (5, 0)], by simp only [MR, nlS_p h0, nlM_p h0, noC, ren_mcs, ren_mb, List.take_zero, List.nil_append, Nat.sub_zero, EntM, compat, apartM, keysBelow, eta, idHs, rd, SV.ren, SV.renL, Option.getD_some, List.getElem?_cons_zero, List.getElem?_cons_succ, List.length_cons, List.length_nil, Nat.zero_add, Nat.add_zero, Nat.reduceAdd, Nat.reduceSub, Nat.reduceEqDiff, Nat.reduceLT, Nat.reduceLeDiff, ↓reduceIte, Kind.isOwn, List.take_zero, List.nil_append, and_self, and_true, true_and, exists_eq_left', Option.some.injEq, ne_eq, not_false_eq_true, implies_true, List.not_mem_nil, false_imp_iff, Bool.true_or, forall_const, reduceCtorEq, List.mem_cons, or_false, forall_eq_or_imp, forall_eq, Nat.succ_ne_self, ren_bytes]; rfl, by simp [frEnt, geto, eta, SV.ren, Option.getD_some, List.length_cons, List.length_nil, Nat.zero_add, Nat.add_zero, Nat.reduceAdd, Nat.reduceEqDiff, Nat.reduceLT, Nat.reduceLeDiff, ↓reduceIte, and_self, Nat.succ_ne_self]⟩
            intro j hj
            by_cases hj16 : j < 16
            · have d1 : (j : Int) < 16 := by omega
              have wj : IntKind.i64.wrap ((j : Int) + 1) = ((j + 1 : Nat) : Int) := by rw [wrap64_eq (by omega) (by omega)]; omega
              have wz : IntKind.i64.wrap (((z + q : Nat) : Int) + (j : Int)) = ((z + q + j : Nat) : Int) := by rw [wrap64_eq (by omega) (by omega)]; omega
              have z0 : (0 : Int) ≤ ((z + q + j : Nat) : Int) := by omega
              have z1 : z + q + j < t.length := by omega
              have j0 : (0 : Int) ≤ (j : Int) := by omega
              have z2 : ((z + q + j : Nat) : Int) < (t.length : Int) := by omega
              obtain ⟨c, hc⟩ : ∃ c, t[z + q + j]? = some c := ⟨_, List.getElem?_eq_getElem z1⟩
              have gz : (bys t)[z + q + j]? = some (.int .u8 (c.toNat : Int)) := by simp only [bys, List.getElem?_map, hc, Option.map_some]; rfl
              have hPj : P[j]? = some c := by rw [← hPP, List.getElem?_take_of_lt hj16, List.getElem?_drop]; exact hc
              have hsp := sp_pub (nm := nm) (h := 0) hPl hPj hj16
              have svl : ∀ X : List UInt8, (Mb.sv ⟨nm, P.take j ++ List.replicate (16 - j) 0, 0⟩).length = 18 := fun _ => Mb.sv_len (by simp; omega)
              have svl := svl []
              have j18 : 1 + j + 1 ≤ 18 := by omega
              simp (config := { maxSteps := 1000000 }) only [nlS_p h0, nlM_p h0, noC, MR, d1, wj, wz, z0, z1, z2, j0, gz, svl, j18, hsp, again_n, reduceCtorEq, Nat.reduceEqDiff, eq_self, decide_true, Int.cast_ofNat_Int,  true_and, List.length_cons, List.length_nil, List.map_cons, List.map_nil, Nat.zero_add, den_nil, den_o0, ↓gd_tt, den_o1, kont_app, den_skip, den_reg, den_seq, den_cond, den_block, den_b, ↓reduceIte, ↓e_load, ↓e_store, ↓e_idxS, ↓e_mv, ↓e_fld, ↓e_idxA, ↓e_bin, ↓u_onInt, ↓u_binV, ↓binI, Opd.ev, Sx.get, put, putO, del, dels, rd, upd, SV.cells?, SV.one, len_bytes, Int.toNat_natCast, Nat.mul_one, Int.cast_ofNat_Int]
              exact ⟨j + 1, ⟨[(0, 0), (1, 0), (2, 0), (3, 0), (4, 0), (5, 0)], by simp only [ren_mcs, ren_mb, EntM, compat, apartM, keysBelow, eta, idHs, rd, SV.ren, SV.renL, Option.getD_some, List.getElem?_cons_zero, List.getElem?_cons_succ, List.length_cons, List.length_nil, Nat.zero_add, Nat.add_zero, Nat.reduceAdd, Nat.reduceSub, Nat.reduceEqDiff, Nat.reduceLT, Nat.reduceLeDiff, ↓reduceIte, Kind.isOwn, List.take_zero, and_self, true_and, exists_eq_left', Option.some.injEq, ne_eq, not_false_eq_true, implies_true, List.not_mem_nil, false_imp_iff, Bool.true_or, forall_const, reduceCtorEq, List.mem_cons, or_false, forall_eq_or_imp, forall_eq, Nat.succ_ne_self, ren_bytes], by simp [frEnt, geto, eta, SV.ren, Option.getD_some, List.length_cons, List.length_nil, Nat.zero_add, Nat.add_zero, Nat.reduceAdd, Nat.reduceEqDiff, Nat.reduceLT, Nat.reduceLeDiff, ↓reduceIte, and_self, Nat.succ_ne_self]⟩, by omega, by omega⟩
            · obtain rfl : j = 16 := by omega
              have hP16 : P.take 16 ++ List.replicate (16 - 16) 0 = P := by rw [List.take_of_length_le (by omega)]; simp
              have w3 : IntKind.i64.wrap (((z + q : Nat) : Int) + 16) = ((z + q + 16 : Nat) : Int) := by rw [wrap64_eq (by omega) (by omega)]; omega
              rcases hr : decS (t.drop (z + q + 16)) with ⟨x, q2, e2⟩
              simp only [hr] at hinv
              have r1 : (0 : Int) ≤ ((z + q + 16 : Nat) : Int) := by omega
              have r2 : ((z + q + 16 : Nat) : Int) ≤ (t.length : Int) := by omega
              have fr := flat_bytes (t.drop (z + q + 16))
              have hlr : (t.drop (z + q + 16)).length = t.length - (z + q + 16) := by simp
              have r4 : z + q + 16 + (t.length - (z + q + 16)) ≤ t.length := by omega
              have rk : List.take (t.length - (z + q + 16)) (bys (t.drop (z + q + 16))) = bys (t.drop (z + q + 16)) := List.take_of_length_le (by rw [len_bytes]; simp)
              have hb3 : t.length - (z + q + 16) ≤ 2 ^ 40 := by omega
              have svl : (Mb.sv ⟨nm, P, 0⟩).length = 18 := Mb.sv_len hPl
              have c3' : ¬ ((16 : Nat) : Int) < 16 := by decide
              by_cases hee2 : e2 = 0
              · subst hee2
                have hzq2 : z + q + 16 + q2 ≤ t.length := by
                  rcases dec_err hr with ⟨_, _, h2, _⟩ | ⟨h, _, _⟩
                  · simp at h2; omega
                  · exact absurd rfl h
                have w4 : IntKind.i64.wrap (((z + q + 16 : Nat) : Int) + (q2 : Int)) = ((z + q + 16 + q2 : Nat) : Int) := by rw [wrap64_eq (by omega) (by omega)]; omega
                rw [if_neg (by simp)] at hinv
                rw [preM_pre] at hinv
                have hsx := sp_h (nm := nm) (h := 0) (x := x) hPl
                have svx : (Mb.sv ⟨nm, P, x⟩).length = 18 := Mb.sv_len hPl
                have tkx : List.take 18 (Mb.sv ⟨nm, P, x⟩) = Mb.sv ⟨nm, P, x⟩ := List.take_of_length_le (by omega)
                have hsz := sp_zero svx
                have hml := len_mcs hP
                have hrx : ∀ η, SV.renL η (Mb.sv ⟨nm, P, x⟩) = Mb.sv ⟨nm, P, x⟩ := fun η => ren_mb η _
                have hmx : mcs (l ++ [⟨nm, P, x⟩]) = mcs l ++ Mb.sv ⟨nm, P, x⟩ := by rw [mcs_app]; simp [mcs]
                have hPx : Pub (l ++ [⟨nm, P, x⟩]) := fun m hm => by
                  rcases List.mem_append.1 hm with hm | hm
                  · exact hP m hm
                  · rw [List.mem_singleton] at hm; subst hm; exact hPl
                have hlx : 0 < (l ++ [(⟨nm, P, x⟩ : Mb)]).length := by simp
                generalize hvx : Mb.sv ⟨nm, P, x⟩ = vx at *
                simp (config := { maxSteps := 1000000 }) only [nlS_p h0, nlM_p h0, noC, MR, gGetIntR, unB_bytes, capB, drop_bys, Option.map_none, Int.le_refl, hP16, w3, w4, hr, r1, r2, fr, hlr, r4, rk, hb3, svl, tup3, wi, hsx, svx, tkx, hsz, sp2, hml, and_self, Int.reduceBNe, lookF, again_n, again_x, reduceCtorEq, Nat.reduceEqDiff, Nat.reduceAdd, Nat.reduceSub, Nat.reduceMul, Nat.reduceLT, Int.reduceLT, eq_self, decide_false, Int.cast_ofNat_Int,  true_and, List.getElem?_cons_zero, List.getElem?_cons_succ, List.length_cons, List.length_nil, List.append_nil, List.nil_append, List.drop_zero, List.map_cons, List.map_nil, Nat.zero_add, Nat.add_zero, den_nil, den_o0, ↓gd_ft, den_o1, kont_app, den_skip, den_reg, den_seq, den_cond, den_exit, den_b, den_xb, den_xc, ↓reduceIte, ↓e_bslice, ↓e_load, ↓e_store, ↓e_slcS, ↓e_ext, ↓e_app, ↓e_mv, ↓e_fld, ↓e_bin, ↓e_call, ↓u_onOpt0, ↓u_onOpt1, ↓u_binV, ↓u_srcOf, ↓u_srcSl, ↓binI, ↓fillE, Opd.ev, Sx.get, put, putO, del, dels, rd, rm, upd, SV.cells?, SV.one, ↓u_callS, canLW, canV, canC, belowL, apH, apH1, SV.ren, SV.renL, newOwn, targets, rms, Kind.isOwn, Nat.le_refl, len_bytes, Int.toNat_natCast, Nat.mul_one, Int.cast_ofNat_Int]
                refine ⟨by omega, by decide, (i + 1, z + q + 16 + q2, l ++ [⟨nm, P, x⟩]), ⟨[(0, 0), (1, 0), (2, 0), (3, 0), (7, 0)], ?_, by simp only [frEnt, geto, eta, SV.ren, Option.getD_some, List.getElem?_cons_zero, List.getElem?_cons_succ, List.length_cons, List.length_nil, Nat.zero_add, Nat.add_zero, Nat.reduceAdd, Nat.reduceSub, Nat.reduceEqDiff, ↓reduceIte, and_self, Nat.succ_ne_self]⟩, ⟨by simp only; omega, hzq2, by simp; omega, hPx, hinv⟩, by simp only; omega⟩
                have hl1 : (l ++ [(⟨nm, P, x⟩ : Mb)]).length = l.length + 1 := by simp
                rw [List.take_of_length_le (Nat.le_of_eq hml)]
                simp only [hmx, hl1, EntM, compat, apartM, keysBelow, eta, idHs, rd, SV.ren, SV.renL, Option.getD_some, List.getElem?_cons_zero, List.getElem?_cons_succ, List.length_cons, List.length_nil, Nat.zero_add, Nat.add_zero, Nat.reduceAdd, Nat.reduceSub, Nat.reduceEqDiff, Nat.reduceLT, Nat.reduceLeDiff, ↓reduceIte, Kind.isOwn, List.take_zero, and_self, and_true, true_and, exists_eq_left', Option.some.injEq, ne_eq, not_false_eq_true, implies_true, List.not_mem_nil, false_imp_iff, Bool.true_or, forall_const, reduceCtorEq, List.mem_cons, or_false, forall_eq_or_imp, forall_eq, Nat.succ_ne_self, ren_bytes, nlS_1, nlM_1, nlN_1]
                rw [← hmx, ren_mcs]
              · have hbb : (e2 != 0) = true := by simpa using hee2
                rw [if_pos hee2, preM_err hee2] at hinv
                have hd : decodeR t = ⟨0, 0, [], e2⟩ := by rw [hd0, hinv]; simp [hee2]
                simp (config := { maxSteps := 1000000 }) only [nlS_p h0, nlM_p h0, noC, MR, gGetIntR, unB_bytes, capB, drop_bys, Option.map_none, Int.le_refl, hP16, w3, hr, r1, r2, fr, hlr, r4, rk, hb3, tup3, hbb, hd, and_self, lookF, again_x, again_r, reduceCtorEq, Nat.reduceEqDiff, Nat.reduceAdd, Nat.reduceSub, Nat.reduceLT, Int.reduceLT, eq_self, decide_false, Int.cast_ofNat_Int,  true_and, and_true, List.getElem?_cons_zero, List.getElem?_cons_succ, List.length_cons, List.length_nil, List.append_nil, List.nil_append, List.take_succ_cons, List.take_zero, List.drop_succ_cons, List.drop_zero, List.take_nil, List.drop_nil, List.map_cons, List.map_nil, Nat.zero_add, Nat.add_zero, den_nil, den_o0, ↓gd_tt, ↓gd_ft, den_o1, kont_app, den_reg, den_seq, den_cond, den_exit, den_ret, den_xb, den_xc, den_rb, den_rc, finE_r, ↓reduceIte, ↓e_build, ↓e_load, ↓e_store, ↓e_slcS, ↓e_ext, ↓e_mv, ↓e_bin, ↓e_call, ↓u_onOpt0, ↓u_onOpt1, ↓u_binV, ↓binI, ↓fillE, ↓evRes, Opd.ev, Sx.get, put, putO, del, dels, rd, upd, splice, SV.cells?, retOf, ↓u_callS, canLW, canV, canC, belowL, apH, apH1, SV.ren, SV.renL, newOwn, targets, rms, Kind.isOwn, Nat.le_refl, nlS_0, nlM_0, nlN_0, len_bytes, Int.toNat_natCast, Nat.mul_one, Int.cast_ofNat_Int]
                exact ⟨[], rfl, by simp [compat, apartM, keysBelow, idHs, List.take_nil, and_self]⟩
          · have hbb : (e != 0) = true := by simpa using hee
            rw [if_pos hee, preM_err hee] at hinv
            have hd : decodeR t = ⟨0, 0, [], e⟩ := by rw [hd0, hinv]; simp [hee]
            simp (config := { maxSteps := 1000000 }) only [noC, gGetBytes, unB_bytes, drop_bys, Option.map_none, Int.le_refl, hlz, k1, k2, k4, tk, hb2, hq, tupB, fz, c1, hbb, hd, and_self, lookF, again_r, reduceCtorEq, Nat.reduceEqDiff, Nat.reduceAdd, Nat.reduceSub, Nat.reduceLT, Int.reduceToNat, Int.reduceLT, Int.reduceLE, eq_self, decide_true, Int.cast_ofNat_Int,  true_and, and_true, List.getElem?_cons_zero, List.getElem?_cons_succ, List.length_cons, List.length_nil, List.append_nil, List.nil_append, List.take_succ_cons, List.take_zero, List.drop_succ_cons, List.drop_zero, List.take_nil, List.drop_nil, List.map_cons, List.map_nil, Nat.zero_add, Nat.add_zero, den_nil, den_o0, ↓gd_tt, den_o1, kont_app, den_skip, den_reg, den_seq, den_cond, den_block, den_ret, den_rb, den_rc, finE_r, ↓reduceIte, ↓e_build, ↓e_load, ↓e_store, ↓e_idxS, ↓e_slcS, ↓e_ext, ↓e_mv, ↓e_bin, ↓e_call, ↓u_onOpt0, ↓u_onOpt1, ↓u_binV, ↓binI, ↓fillE, ↓evRes, Opd.ev, Sx.get, put, putO, del, dels, rd, upd, splice, SV.cells?, retOf, ↓u_callS, canLW, canV, canC, belowL, apH, apH1, SV.ren, SV.renL, newOwn, targets, rms, Kind.isOwn, Nat.le_refl, nlS_0, nlM_0, nlN_0, len_bytes, Int.toNat_natCast, Nat.mul_one, Int.cast_ofNat_Int]
            exact ⟨[], rfl, by simp [compat, apartM, keysBelow, idHs, List.take_nil, and_self]⟩
      · obtain rfl : i = n := by omega
        have c3 : ¬ (i : Int) < (i : Int) := by omega
        rw [Nat.sub_self] at hinv
        have hr0 : refMs t 0 z = ([], z, 0) := rfl
        rw [hr0] at hinv
        have hr1 : preM l ([], z, 0) = (l, z, 0) := by unfold preM; simp
        rw [hr1] at hinv
        rw [hinv] at hd0
        rw [if_neg (by simp)] at hd0
        simp only at hd0
        have hml := len_mcs hP
        have flm := flat_mcs l
        rcases Nat.eq_zero_or_pos l.length with h0 | h0
        · omega
        have hpos := h0
        simp only [MR, nlS_p h0, nlM_p h0, nlN_p h0]
        have um := unM_mcs (f := l.length * 18) hP (by omega)
        have tkl : List.take (l.length * 18) (mcs l) = mcs l := List.take_of_length_le (by omega)
        have hbl : Nat.ble l.length 9223372036854775807 = true := Nat.ble_eq_true_of_le (by omega)
        by_cases hzt : z = t.length
        · have b1 : ((z : Int) != (t.length : Int)) = false := by rw [hzt]; simp
          cases hv : validB a b l with
          | false =>
            have hd : decodeR t = ⟨0, 0, [], 6⟩ := by rw [hd0, if_pos (Or.inr hv)]
            simp (config := { maxSteps := 1000000 }) only [noC, gValidR, b1, c3, hd, um, tkl, hml, hbl, flm, hv, SV.flatL, SV.flat, Bool.and_true, Bool.true_and, and_self, lookF, setv, again_x, reduceCtorEq, Nat.reduceEqDiff, Nat.reduceAdd, Nat.reduceSub, Nat.reduceLT, Int.reduceToNat, Int.reduceLT, Int.reduceLE, eq_self, decide_false, Int.cast_ofNat_Int,  true_and, and_true, List.getElem?_cons_zero, List.getElem?_cons_succ, List.length_cons, List.length_nil, List.append_nil, List.nil_append, List.take_succ_cons, List.take_zero, List.drop_succ_cons, List.drop_zero, List.take_nil, List.drop_nil, List.map_cons, List.map_nil, Nat.zero_add, Nat.add_zero, den_nil, den_o0, ↓gd_tt, ↓gd_ff, ↓gd_ft, den_o1, kont_app, den_g, setv, Bool.not_false, den_reg, Bool.not_false, den_seq, den_cond, den_exit, den_ret, den_xb, den_xc, den_rc, finE_r, ↓reduceIte, ↓e_build, ↓e_load, ↓e_store, ↓e_idxS, ↓e_mv, ↓e_pick, ↓e_bin, ↓e_un, ↓e_call, ↓e_len, ↓u_binV, ↓binI, ↓fillE, ↓evRes, Opd.ev, Sx.get, put, putO, del, dels, rd, upd, splice, SV.cells?, retOf, ↓u_callS, canLW, canV, canC, belowL, apH, apH1, SV.ren, SV.renL, newOwn, targets, rms, Kind.isOwn, Nat.le_refl, nlS_0, nlM_0, nlN_0, Nat.mul_one, Int.cast_ofNat_Int]
            exact ⟨[], rfl, by simp [compat, apartM, keysBelow, idHs, List.take_nil, and_self]⟩
          | true =>
            have hd : decodeR t = ⟨a, b, l, 0⟩ := by
              rw [hd0, if_neg]
              rintro (h | h)
              · exact h hzt
              · rw [hv] at h; cases h
            simp (config := { maxSteps := 1000000 }) only [noC, gValidR, b1, c3, hd, um, tkl, hml, hbl, flm, hv, nlS_p h0, nlM_p h0, nlN_p h0, SV.flatL, SV.flat, Bool.and_true, Bool.true_and, List.cons.injEq, SV.tup.injEq, SV.agg.injEq, and_self, lookF, setv, again_x, reduceCtorEq, Nat.reduceEqDiff, Nat.reduceAdd, Nat.reduceSub, Nat.reduceLT, Int.reduceToNat, Int.reduceLT, Int.reduceLE, eq_self, decide_false, Int.cast_ofNat_Int,  true_and, and_true, List.getElem?_cons_zero, List.getElem?_cons_succ, List.length_cons, List.length_nil, List.append_nil, List.nil_append, List.take_succ_cons, List.take_zero, List.drop_succ_cons, List.drop_zero, List.take_nil, List.drop_nil, List.map_cons, List.map_nil, Nat.zero_add, Nat.add_zero, den_nil, den_o0, ↓gd_ff, ↓gd_ft, den_o1, kont_app, den_g, setv, Bool.not_true, den_skip, den_reg, Bool.not_true, den_seq, den_cond, den_exit, den_ret, den_xb, den_xc, finE_r, ↓reduceIte, ↓e_load, ↓e_store, ↓e_idxS, ↓e_mv, ↓e_pick, ↓e_bin, ↓e_un, ↓e_call, ↓e_len, ↓u_binV, ↓binI, ↓evRes, Opd.ev, Sx.get, put, putO, del, dels, rd, upd, splice, SV.cells?, retOf, ↓u_callS, canLW, canV, canC, belowL, apH, apH1, eta, SV.ren, SV.renL, newOwn, targets, rms, Kind.isOwn, Nat.le_refl, Nat.mul_one, Int.cast_ofNat_Int]
            exact ⟨[(4, 0)], by simp [ren_mcs, EntM, compat, apartM, keysBelow, eta, idHs, rd, Option.getD_some, List.length_cons, List.length_nil, Nat.zero_add, Nat.add_zero, ↓reduceIte, Kind.isOwn, List.take_zero, and_self, true_and, exists_eq_left', Option.some.injEq, ne_eq, implies_true, List.not_mem_nil, Bool.true_or, forall_const], by simp [Option.getD_some, List.length_cons, List.length_nil, Nat.zero_add, Nat.add_zero]⟩
        · have b1 : ((z : Int) != (t.length : Int)) = true := by rw [bne_iff_ne]; omega
          have hd : decodeR t = ⟨0, 0, [], 6⟩ := by rw [hd0, if_pos (Or.inl hzt)]
          cases hv : validB a b l <;>
          · simp (config := { maxSteps := 1000000 }) only [noC, gValidR, b1, c3, hd, um, tkl, hml, hbl, flm, hv, SV.flatL, SV.flat, Bool.and_true, Bool.true_and, and_self, undef, lookF, setv, again_x, reduceCtorEq, Nat.reduceEqDiff, Nat.reduceAdd, Nat.reduceSub, Nat.reduceLT, Int.reduceToNat, Int.reduceLT, Int.reduceLE, eq_self, decide_false, Int.cast_ofNat_Int,  true_and, and_true, List.getElem?_cons_zero, List.getElem?_cons_succ, List.length_cons, List.length_nil, List.append_nil, List.nil_append, List.take_succ_cons, List.take_zero, List.drop_succ_cons, List.drop_zero, List.take_nil, List.drop_nil, List.map_cons, List.map_nil, Nat.zero_add, Nat.add_zero, den_nil, den_o0, ↓gd_tt, ↓gd_tf, ↓gd_ft, den_o1, kont_app, den_g, setv, Bool.not_false, den_reg, Bool.not_false, den_seq, den_cond, den_exit, den_ret, den_xb, den_xc, den_rc, finE_r, ↓reduceIte, ↓e_build, ↓e_load, ↓e_store, ↓e_idxS, ↓e_mv, ↓e_pick, ↓e_bin, ↓e_call, ↓e_len, ↓u_binV, ↓binI, ↓fillE, ↓evRes, Opd.ev, Sx.get, put, putO, del, dels, rd, upd, splice, SV.cells?, retOf, ↓u_callS, canLW, canV, canC, belowL, apH, apH1, SV.ren, SV.renL, newOwn, targets, rms, Kind.isOwn, Nat.le_refl, nlS_0, nlM_0, nlN_0, Nat.mul_one, Int.cast_ofNat_Int]
            exact ⟨[], rfl, by simp [compat, apartM, keysBelow, idHs, List.take_nil, and_self]⟩
    · have hb : ((l.length : Int) != 3) = true := by rw [bne_iff_ne]; omega
      have hd : decodeR t = ⟨0, 0, [], 6⟩ := by
        unfold decodeR; rw [hx]
        simp only [ne_eq, not_true_eq_false, if_false]
        split
        · rename_i a b c; exact absurd rfl hl3
        · rfl
      rcases Nat.eq_zero_or_pos l.length with h0 | h0
      · simp (config := { maxSteps := 1000000 }) only [tabY, gGetInts, unB_bytes, ht, fl, hx, rI, nlS_z h0, nlM_z h0, nlN_z h0, hd, and_self, Int.reduceBNe, lookF, reduceCtorEq, Nat.reduceEqDiff, Nat.reduceAdd, Nat.reduceSub, Nat.reduceLT, eq_self,  true_and, and_true, List.getElem?_cons_zero, List.getElem?_cons_succ, List.length_cons, List.length_nil, List.append_nil, List.nil_append, List.take_succ_cons, List.take_zero, List.drop_succ_cons, List.drop_zero, List.take_nil, List.drop_nil, List.map_cons, List.map_nil, Nat.zero_add, Nat.add_zero, frOf, den_nil, den_o0, ↓gd_tt, ↓gd_ft, den_o1, kont_app, den_skip, den_reg, den_seq, den_cond, den_ret, den_rc, finE_r, ↓reduceIte, ↓e_build, ↓e_load, ↓e_store, ↓e_ext, ↓e_mv, ↓e_new, ↓e_bin, ↓e_s2b, ↓e_call, ↓e_len, ↓u_binV, ↓binI, ↓fillE, ↓evRes, Opd.ev, Sx.get, put, putO, del, dels, rd, upd, splice, SV.cells?, retOf, ↓u_callS, canLW, canV, canC, belowL, apH, apH1, SV.ren, SV.renL, newOwn, targets, rms, Kind.isOwn, Nat.le_refl, take_bytes, nlS_0, nlM_0, nlN_0, map_byte, len_bytes, Nat.mul_one]
        exact ⟨[], by simp [EntM, compat, apartM, keysBelow, idHs, List.length_nil, List.take_nil, and_self]⟩
      · simp (config := { maxSteps := 1000000 }) only [tabY, gGetInts, unB_bytes, ht, fl, hx, rI, nlS_p h0, nlM_p h0, nlN_p h0, hd, hb, and_self, Int.reduceBNe, lookF, reduceCtorEq, Nat.reduceEqDiff, Nat.reduceAdd, Nat.reduceSub, Nat.reduceLT, eq_self,  true_and, and_true, List.getElem?_cons_zero, List.getElem?_cons_succ, List.length_cons, List.length_nil, List.append_nil, List.nil_append, List.cons_append, List.take_succ_cons, List.take_zero, List.drop_succ_cons, List.drop_zero, List.take_nil, List.drop_nil, List.map_cons, List.map_nil, Nat.zero_add, Nat.add_zero, frOf, den_nil, den_o0, ↓gd_tt, ↓gd_ft, den_o1, kont_app, den_skip, den_reg, den_seq, den_cond, den_ret, den_rc, finE_r, ↓reduceIte, ↓e_build, ↓e_load, ↓e_store, ↓e_ext, ↓e_mv, ↓e_new, ↓e_bin, ↓e_s2b, ↓e_call, ↓e_len, ↓u_binV, ↓binI, ↓fillE, ↓evRes, Opd.ev, Sx.get, put, putO, del, dels, rd, upd, splice, SV.cells?, retOf, ↓u_callS, canLW, canV, canC, belowL, apH, apH1, eta, SV.ren, SV.renL, newOwn, targets, rms, Kind.isOwn, ren_ints, List.getElem?_nil, Option.getD_none, Nat.le_refl, take_bytes, nlS_0, nlM_0, nlN_0, map_byte, len_bytes, Nat.mul_one]
        exact ⟨[], by simp [EntM, compat, apartM, keysBelow, idHs, List.length_nil, List.take_nil, and_self]⟩
  · have hd : decodeR t = ⟨0, 0, [], e⟩ := by unfold decodeR; rw [hx]; simp [he]
    have hl0 : l.length = 0 := by rw [((ints_facts hx).2 he).1]; rfl
    have he2 : (e != 0) = true := by simpa using he
    simp (config := { maxSteps := 1000000 }) only [tabY, gGetInts, unB_bytes, ht, fl, hx, rI, nlS_z hl0, nlM_z hl0, nlN_z hl0, hd, he2, and_self, lookF, reduceCtorEq, Nat.reduceEqDiff, Nat.reduceAdd, Nat.reduceSub, Nat.reduceLT, eq_self,  true_and, and_true, List.getElem?_cons_zero, List.getElem?_cons_succ, List.length_cons, List.length_nil, List.append_nil, List.nil_append, List.take_succ_cons, List.take_zero, List.drop_succ_cons, List.drop_zero, List.take_nil, List.drop_nil, List.map_cons, List.map_nil, Nat.zero_add, Nat.add_zero, frOf, den_nil, den_o0, ↓gd_tt, den_o1, kont_app, den_reg, den_seq, den_cond, den_ret, den_rc, finE_r, ↓reduceIte, ↓e_build, ↓e_load, ↓e_store, ↓e_ext, ↓e_mv, ↓e_new, ↓e_bin, ↓e_s2b, ↓e_call, ↓u_binV, ↓binI, ↓fillE, ↓evRes, Opd.ev, Sx.get, put, putO, del, dels, rd, upd, splice, SV.cells?, retOf, ↓u_callS, canLW, canV, canC, belowL, apH, apH1, SV.ren, SV.renL, newOwn, targets, rms, Kind.isOwn, Nat.le_refl, take_bytes, nlS_0, nlM_0, nlN_0, map_byte, len_bytes, Nat.mul_one]
    exact ⟨[], by simp [EntM, compat, apartM, keysBelow, idHs, List.length_nil, List.take_nil, and_self]⟩
end Go.Proofs.YtkfbkooobfepeaaDoor

/- The plain law of Decode and Encode: the two Decodes are the same, and they undo Encode. -/
namespace Go.Proofs.YtkfbkooobfepeaaDoor
open Go Go.Sx Sf
set_option maxRecDepth 100000
set_option linter.unusedSimpArgs false
set_option linter.unusedVariables false
theorem one_err {s : RS} {i : Nat} (h : s.e ≠ 0) : s.one i = s := by
  have h1 : ∀ m, s.name i m = s := fun m => by unfold RS.name; rw [if_pos h]
  have h2 : ∀ m, s.pub i m = s := fun m => by unfold RS.pub; rw [if_pos h]
  have h3 : ∀ m, s.height i m = s := fun m => by unfold RS.height; rw [if_pos h]
  simp only [RS.one, RS.p2, RS.p1, h1, h2, h3]
theorem set_rep {l : List Mb} {m0 m : Mb} (r : List Mb) : (l ++ m0 :: r).set l.length m = l ++ m :: r := by
  simp
theorem getD_rep {l : List Mb} {m0 : Mb} (r : List Mb) : (l ++ m0 :: r).getD l.length zM = m0 := by
  simp
theorem one_step (t : List UInt8) (l : List Mb) (k z : Nat) (hz : z ≤ t.length) :
    let s : RS := ⟨t.drop z, 0, l ++ zM :: List.replicate k zM⟩
    ((s.one l.length).e ≠ 0 ∧ refMs t (k + 1) z = ([], 0, (s.one l.length).e)) ∨
    (∃ m z', z' ≤ t.length ∧ s.one l.length = ⟨t.drop z', 0, (l ++ [m]) ++ List.replicate k zM⟩ ∧
      refMs t (k + 1) z = if (refMs t k z').2.2 ≠ 0 then refMs t k z' else (m :: (refMs t k z').1, (refMs t k z').2.1, 0)) := by
  intro s
  rw [refMs_succ]
  rcases hq : bytS (t.drop z) with ⟨nm, q, e⟩
  have g0 : s.ms.getD l.length zM = zM := getD_rep _
  by_cases he : e = 0
  · subst he
    have hzq : z + q ≤ t.length := by
      rcases byt_err hq with ⟨_, h2, _⟩ | ⟨h, _⟩
      · simp at h2; omega
      · exact absurd rfl h
    have s1 : s.p1 l.length = ⟨t.drop (z + q), 0, l ++ ⟨nm, zM.pub, zM.h⟩ :: List.replicate k zM⟩ := by
      unfold RS.p1
      rw [g0]
      simp only [RS.name, s, hq, List.drop_drop, ne_eq, not_true_eq_false, if_false, set_rep]
    have g1 : (s.p1 l.length).ms.getD l.length zM = ⟨nm, zM.pub, zM.h⟩ := by rw [s1]; exact getD_rep _
    simp only [ne_eq, not_true_eq_false, if_false]
    by_cases h16 : t.length - (z + q) < 16
    · left
      have s2 : s.one l.length = ⟨t.drop (z + q), 5, l ++ ⟨nm, zM.pub, zM.h⟩ :: List.replicate k zM⟩ := by
        unfold RS.one RS.p2
        rw [s1]
        have : (t.drop (z + q)).length < 16 := by simpa using h16
        simp only [RS.pub, this, ne_eq, not_true_eq_false, if_false, if_true]
        unfold RS.height
        rw [if_pos (by simp)]
      rw [s2, if_pos h16]
      exact ⟨by simp, rfl⟩
    rw [if_neg h16]
    have s2 : s.p2 l.length = ⟨t.drop (z + q + 16), 0, l ++ ⟨nm, (t.drop (z + q)).take 16, zM.h⟩ :: List.replicate k zM⟩ := by
      unfold RS.p2
      rw [g1, s1]
      have : ¬ (t.drop (z + q)).length < 16 := by simpa using h16
      simp only [RS.pub, this, List.drop_drop, ne_eq, not_true_eq_false, if_false, set_rep]
    have g2 : (s.p2 l.length).ms.getD l.length zM = ⟨nm, (t.drop (z + q)).take 16, zM.h⟩ := by rw [s2]; exact getD_rep _
    rcases hr : decS (t.drop (z + q + 16)) with ⟨x, q2, e2⟩
    by_cases he2 : e2 = 0
    · subst he2
      right
      have hzq2 : z + q + 16 + q2 ≤ t.length := by
        rcases dec_err hr with ⟨_, _, h2, _⟩ | ⟨h, _, _⟩
        · simp at h2; omega
        · exact absurd rfl h
      refine ⟨⟨nm, (t.drop (z + q)).take 16, x⟩, z + q + 16 + q2, hzq2, ?_, ?_⟩
      · unfold RS.one
        rw [g2, s2]
        simp only [RS.height, hr, List.drop_drop, ne_eq, not_true_eq_false, if_false, set_rep]
        simp
      · simp
    · left
      have s3 : s.one l.length = ⟨t.drop (z + q + 16), e2, l ++ ⟨nm, (t.drop (z + q)).take 16, zM.h⟩ :: List.replicate k zM⟩ := by
        unfold RS.one
        rw [s2]
        simp [RS.height, hr, he2]
      rw [s3]
      simp [he2]
  · left
    have s1 : s.one l.length = ⟨t.drop z, e, l ++ zM :: List.replicate k zM⟩ := by
      have h1 : s.p1 l.length = ⟨t.drop z, e, l ++ zM :: List.replicate k zM⟩ := by
        unfold RS.p1
        simp [RS.name, s, hq, he]
      unfold RS.one RS.p2
      rw [h1]
      simp [RS.pub, RS.height, he]
    rw [s1]
    simp [he]
theorem upto_ref (t : List UInt8) (n u : Nat) (hu : u ≤ t.length) : ∀ i ≤ n, let s := RS.upto ⟨t.drop u, 0, List.replicate n zM⟩ i
    (s.e ≠ 0 ∧ refMs t n u = ([], 0, s.e)) ∨ (∃ l z, z ≤ t.length ∧ l.length = i ∧ s = ⟨t.drop z, 0, l ++ List.replicate (n - i) zM⟩ ∧ refMs t n u = preM l (refMs t (n - i) z))
  | 0, _ => .inr ⟨[], u, hu, rfl, rfl, (preM_nil _).symm⟩
  | i + 1, hi => by
    intro s
    have hs : s = (RS.upto ⟨t.drop u, 0, List.replicate n zM⟩ i).one i := rfl
    rcases upto_ref t n u hu i (by omega) with ⟨h1, h2⟩ | ⟨l, z, h1, h2, h3, h4⟩
    · rw [one_err h1] at hs
      rw [hs]
      exact .inl ⟨h1, h2⟩
    · rw [show n - i = (n - (i + 1)) + 1 by omega, List.replicate_succ] at h3
      rw [show n - i = (n - (i + 1)) + 1 by omega] at h4
      rw [h3] at hs
      have := one_step t l (n - (i + 1)) z h1
      simp only at this
      rw [h2, ← hs] at this
      rcases this with ⟨k1, k2⟩ | ⟨m, z', k1, k2, k3⟩
      · left
        refine ⟨k1, ?_⟩
        rw [h4, k2, preM_err k1]
      · right
        refine ⟨l ++ [m], z', k1, by simp [h2], k2, ?_⟩
        rw [h4, k3, preM_pre]
theorem decode_same (t : List UInt8) : decodeR t = decodeS t := by
  unfold decodeR decodeS
  rcases hx : intsS t with ⟨l, u, e⟩
  have hu : u ≤ t.length := (ints_facts hx).1
  simp only
  by_cases he : e = 0
  · rw [if_neg (by simpa using he), if_neg (by simpa using he)]
    by_cases hc : ∃ a b c, l = [a, b, c]
    · obtain ⟨a, b, c, rfl⟩ := hc
      simp only
      by_cases hc : c < 1 ∨ c > 16
      · rw [if_pos hc, if_pos hc]
      rw [if_neg hc, if_neg hc]
      have h := upto_ref t c.toNat u hu c.toNat (Nat.le_refl _)
      simp only at h
      rcases h with ⟨h1, h2⟩ | ⟨l, z, h1, h2, h3, h4⟩
      · rw [h2, if_pos h1, if_pos h1]
      · rw [h3, h4, Nat.sub_self]
        have hr1 : preM l (refMs t 0 z) = (l, z, 0) := by unfold preM refMs; simp
        rw [hr1]
        have : (t.drop z).length > 0 ↔ z ≠ t.length := by simp; omega
        simp only [this, List.replicate_zero, List.append_nil]
    · split
      · exact absurd ⟨_, _, _, rfl⟩ hc
      · first
        | rfl
        | (split
           · exact absurd ⟨_, _, _, rfl⟩ hc
           · rfl)
  · rw [if_pos (by simpa using he), if_pos (by simpa using he)]
end Go.Proofs.YtkfbkooobfepeaaDoor

/- The round trip of Decode and Encode. -/
namespace Go.Proofs.YtkfbkooobfepeaaDoor
open Go Go.Sx Sf
set_option maxRecDepth 100000
set_option linter.unusedVariables false
theorem cnt_enc {n : Nat} {q : List UInt8} (hn : n < 9223372036854775808) (hq : n ≤ q.length) : decS (encI (n : Int) ++ q) = ((n : Int), (encI (n : Int)).length, 0) ∧ cntE (encI (n : Int) ++ q) 1 = 0 := by
  have hr : R64 (n : Int) := by unfold R64; omega
  have h1 := dec_enc hr q
  refine ⟨h1, ?_⟩
  unfold cntE
  rw [h1]
  simp only [ne_eq, not_true_eq_false, if_false, List.length_append, Nat.div_one, Nat.add_sub_cancel_left]
  rw [if_neg (by omega), if_neg (by omega)]
theorem byt_enc {s q : List UInt8} (hs : s.length < 9223372036854775808) : bytS (encS s ++ q) = (s, (encS s).length, 0) := by
  have h := cnt_enc (n := s.length) (q := s ++ q) hs (by simp)
  rw [← List.append_assoc] at h
  unfold bytS encS
  rw [h.1, h.2]
  simp only [ne_eq, not_true_eq_false, if_false, List.length_append, Int.toNat_natCast, List.append_assoc]
  rw [List.drop_left, List.take_left]
theorem rdN_enc : ∀ (l : List Int) (b : List UInt8) (z : Nat) (r : List UInt8), (∀ x ∈ l, R64 x) → z ≤ b.length → b.drop z = encL l ++ r → rdN b l.length z = (l, z + (encL l).length, 0)
  | [], b, z, r, _, _, h => by simp [rdN, encL]
  | x :: l, b, z, r, hl, hz, h => by
    simp only [encL, List.append_assoc] at h
    have h1 : decS (b.drop z) = (x, (encI x).length, 0) := by rw [h]; exact dec_enc (hl x List.mem_cons_self) _
    have hlen := congrArg List.length h
    simp only [List.length_append, List.length_drop] at hlen
    have h2 := rdN_enc l b (z + (encI x).length) r (fun y hy => hl y (List.mem_cons_of_mem _ hy)) (by omega) (by rw [← List.drop_drop, h, List.drop_left])
    simp only [List.length_cons, rdN, h1, h2, encL, List.length_append, ne_eq, not_true_eq_false, if_false, Nat.add_assoc]
theorem encL_ge : ∀ l, l.length ≤ (encL l).length
  | [] => Nat.le_refl _
  | x :: l => by
    have := encL_ge l
    simp only [encL, encI, List.length_append, List.length_cons]; omega
theorem ints_enc {l : List Int} {r : List UInt8} (hl : ∀ x ∈ l, R64 x) (hn : l.length < 9223372036854775808) : intsS (encIs l ++ r) = (l, (encIs l).length, 0) := by
  have hge := encL_ge l
  have h := cnt_enc (n := l.length) (q := encL l ++ r) hn (by simp; omega)
  rw [← List.append_assoc] at h
  unfold intsS encIs
  rw [h.1, h.2]
  simp only [ne_eq, not_true_eq_false, if_false, Int.toNat_natCast]
  rw [rdN_enc l _ _ r hl (by simp) (by rw [List.append_assoc, List.drop_left])]
  simp
def okE (l : List Mb) : Prop := ∀ m ∈ l, R64 m.h ∧ m.name.length < 9223372036854775808 ∧ m.pub.length = 16
theorem ref_enc : ∀ (l : List Mb) (t : List UInt8) (z : Nat) (r : List UInt8), okE l → z ≤ t.length → t.drop z = encMs l ++ r → refMs t l.length z = (l, z + (encMs l).length, 0)
  | [], t, z, r, _, _, h => by simp [refMs, encMs]
  | m :: l, t, z, r, hl, hz, h => by
    obtain ⟨h1, h2, h3⟩ := hl m List.mem_cons_self
    simp only [encMs, encMb, List.append_assoc] at h
    have hlen := congrArg List.length h
    simp only [List.length_append, List.length_drop] at hlen
    have g1 : bytS (t.drop z) = (m.name, (encS m.name).length, 0) := by rw [h]; exact byt_enc h2
    have d1 : t.drop (z + (encS m.name).length) = m.pub ++ (encI m.h ++ (encMs l ++ r)) := by rw [← List.drop_drop, h, List.drop_left]
    have d2 : t.drop (z + (encS m.name).length + 16) = encI m.h ++ (encMs l ++ r) := by rw [← List.drop_drop, d1, ← h3, List.drop_left]
    have g2 : decS (t.drop (z + (encS m.name).length + 16)) = (m.h, (encI m.h).length, 0) := by rw [d2]; exact dec_enc h1 _
    have d3 : t.drop (z + (encS m.name).length + 16 + (encI m.h).length) = encMs l ++ r := by rw [← List.drop_drop, d2, List.drop_left]
    have ih := ref_enc l t _ r (fun y hy => hl y (List.mem_cons_of_mem _ hy)) (by omega) d3
    have hp : (t.drop (z + (encS m.name).length)).take 16 = m.pub := by rw [d1, ← h3, List.take_left]
    rw [List.length_cons, refMs_succ]
    simp only [g1, g2, ih, hp, ne_eq, not_true_eq_false, if_false]
    rw [if_neg (by omega)]
    simp only [encMs, encMb, List.length_append, h3]
    simp only [Prod.mk.injEq, true_and, and_true]; omega
theorem decode_encode {e n : Int} {l : List Mb} (he : R64 e) (hn : R64 n) (hl : okE l) (hL : l.length < 9223372036854775808) :
    decodeS (encodeS e n l) = if validB e n l = true then ⟨e, n, l, 0⟩ else ⟨0, 0, [], 6⟩ := by
  rw [← decode_same]
  unfold decodeR encodeS
  rw [ints_enc (by intro x hx; simp only [List.mem_cons, List.not_mem_nil, or_false] at hx; rcases hx with rfl | rfl | rfl; exact he; exact hn; unfold R64; omega) (by simp)]
  simp only [ne_eq, not_true_eq_false, if_false]
  by_cases hc : (l.length : Int) < 1 ∨ (l.length : Int) > 16
  · rw [if_pos hc, if_neg]
    intro hv
    obtain ⟨_, ⟨_, _, _, _, _⟩, _⟩ := validB_iff.1 hv
    omega
  · rw [if_neg hc, Int.toNat_natCast]
    rw [ref_enc l _ _ [] hl (by simp) (by rw [List.drop_left, List.append_nil])]
    simp only [not_true_eq_false, if_false, List.length_append, false_or]
    cases validB e n l <;> simp
theorem byt_dec {b s : List UInt8} {u : Nat} (h : bytS b = (s, u, 0)) : u ≤ b.length ∧ b.take u = encS s := by
  unfold bytS at h
  by_cases hc : cntE b 1 = 0
  · obtain ⟨n, q, hx, h1, h2, h3⟩ := cnt_ok hc
    rw [if_neg (by simpa using hc), hx] at h
    simp only [Int.toNat_natCast, Prod.mk.injEq, and_true] at h
    obtain ⟨rfl, rfl⟩ := h
    rw [Nat.div_one] at h2
    obtain ⟨k1, k2, k3⟩ := enc_dec hx
    refine ⟨by omega, ?_⟩
    unfold encS
    have hl : ((b.drop q).take n).length = n := by simp; omega
    rw [hl, ← k3, List.take_add]
  · rw [if_pos hc] at h
    simp only [Prod.mk.injEq] at h
    exact absurd h.2.2 hc
theorem rdN_dec {b : List UInt8} : ∀ (k z : Nat) {l : List Int} {u : Nat}, z ≤ b.length → rdN b k z = (l, u, 0) → l.length = k ∧ z ≤ u ∧ u ≤ b.length ∧ (b.drop z).take (u - z) = encL l ∧ ∀ x ∈ l, R64 x
  | 0, z, l, u, hz, h => by
    simp only [rdN, Prod.mk.injEq, and_true] at h
    obtain ⟨rfl, rfl⟩ := h
    exact ⟨rfl, Nat.le_refl _, hz, by simp [encL], by simp⟩
  | k + 1, z, l, u, hz, h => by
    rcases hq : decS (b.drop z) with ⟨x, q, e⟩
    simp only [rdN, hq] at h
    by_cases he : e = 0
    · subst he
      rw [if_neg (by simp)] at h
      obtain ⟨k1, k2, k3⟩ := enc_dec hq
      rw [List.length_drop] at k2
      rcases hr : rdN b k (z + q) with ⟨l', u', e'⟩
      rw [hr] at h
      simp only at h
      by_cases he' : e' = 0
      · subst he'
        rw [if_neg (by simp)] at h
        simp only [Prod.mk.injEq, and_true] at h
        obtain ⟨rfl, rfl⟩ := h
        obtain ⟨h1, h2, h3, h4, h5⟩ := rdN_dec k (z + q) (by omega) hr
        refine ⟨by simp [h1], by omega, h3, ?_, ?_⟩
        · rw [show u' - z = q + (u' - (z + q)) by omega, List.take_add, k3, List.drop_drop, h4]; rfl
        · intro y hy
          rcases List.mem_cons.1 hy with rfl | hy
          · exact k1
          · exact h5 y hy
      · rw [if_pos he'] at h
        simp only [Prod.mk.injEq] at h
        exact absurd h.2.2 he'
    · rw [if_pos he] at h
      simp only [Prod.mk.injEq] at h
      exact absurd h.2.2 he
theorem ints_dec {b : List UInt8} {l : List Int} {u : Nat} (h : intsS b = (l, u, 0)) : u ≤ b.length ∧ b.take u = encIs l ∧ ∀ x ∈ l, R64 x := by
  unfold intsS at h
  by_cases hc : cntE b 1 = 0
  · obtain ⟨n, q, hx, h1, h2, h3⟩ := cnt_ok hc
    rw [if_neg (by simpa using hc), hx] at h
    simp only [Int.toNat_natCast] at h
    obtain ⟨k1, k2, k3⟩ := enc_dec hx
    obtain ⟨r1, r2, r3, r4, r5⟩ := rdN_dec n q h1 h
    refine ⟨r3, ?_, r5⟩
    unfold encIs
    rw [r1, ← k3, ← r4, show u = q + (u - q) by omega, List.take_add]
    simp
  · rw [if_pos hc] at h
    simp only [Prod.mk.injEq] at h
    exact absurd h.2.2 hc
theorem ref_dec {t : List UInt8} : ∀ (k z : Nat) {l : List Mb} {u : Nat}, z ≤ t.length → refMs t k z = (l, u, 0) → l.length = k ∧ z ≤ u ∧ u ≤ t.length ∧ (t.drop z).take (u - z) = encMs l ∧ Pub l
  | 0, z, l, u, hz, h => by
    simp only [refMs, Prod.mk.injEq, and_true] at h
    obtain ⟨rfl, rfl⟩ := h
    exact ⟨rfl, Nat.le_refl _, hz, by simp [encMs], fun m hm => by cases hm⟩
  | k + 1, z, l, u, hz, h => by
    rw [refMs_succ] at h
    rcases hq : bytS (t.drop z) with ⟨nm, q, e⟩
    simp only [hq] at h
    by_cases he : e = 0
    · subst he
      rw [if_neg (by simp)] at h
      obtain ⟨k2, k3⟩ := byt_dec hq
      rw [List.length_drop] at k2
      by_cases h16 : t.length - (z + q) < 16
      · rw [if_pos h16] at h
        simp at h
      rw [if_neg h16] at h
      rcases hr : decS (t.drop (z + q + 16)) with ⟨x, q2, e2⟩
      simp only [hr] at h
      by_cases he2 : e2 = 0
      · subst he2
        rw [if_neg (by simp)] at h
        obtain ⟨j1, j2, j3⟩ := enc_dec hr
        rw [List.length_drop] at j2
        rcases hs : refMs t k (z + q + 16 + q2) with ⟨l', u', e'⟩
        simp only [hs] at h
        by_cases he' : e' = 0
        · subst he'
          rw [if_neg (by simp)] at h
          simp only [Prod.mk.injEq, and_true] at h
          obtain ⟨rfl, rfl⟩ := h
          obtain ⟨h1, h2, h3, h4, h5⟩ := ref_dec k _ (by omega) hs
          refine ⟨by simp [h1], by omega, h3, ?_, ?_⟩
          · rw [show u' - z = q + (16 + (q2 + (u' - (z + q + 16 + q2)))) by omega, List.take_add, k3, List.drop_drop, List.take_add, List.drop_drop, List.take_add, j3, List.drop_drop, h4]
            simp [encMs, encMb]
          · intro m hm
            rcases List.mem_cons.1 hm with rfl | hm
            · simp; omega
            · exact h5 m hm
        · rw [if_pos he'] at h
          simp only [Prod.mk.injEq] at h
          exact absurd h.2.2 he'
      · rw [if_pos he2] at h
        simp only [Prod.mk.injEq] at h
        exact absurd h.2.2 he2
    · rw [if_pos he] at h
      simp only [Prod.mk.injEq] at h
      exact absurd h.2.2 he
theorem encode_decode {t : List UInt8} {a b : Int} {l : List Mb} (h : decodeS t = ⟨a, b, l, 0⟩) : encodeS a b l = t ∧ validB a b l = true ∧ Pub l := by
  rw [← decode_same] at h
  unfold decodeR at h
  rcases hx : intsS t with ⟨x, u, e⟩
  simp only [hx] at h
  by_cases he : e = 0
  · subst he
    rw [if_neg (by simp)] at h
    obtain ⟨i1, i2, i3⟩ := ints_dec hx
    split at h
    · rename_i a' b' c
      split at h
      · simp at h
      · rename_i hc
        rcases hr : refMs t c.toNat u with ⟨l', v, e'⟩
        simp only [hr] at h
        by_cases he' : e' = 0
        · subst he'
          rw [if_neg (by simp)] at h
          obtain ⟨r1, r2, r3, r4, r5⟩ := ref_dec _ _ i1 hr
          split at h
          · simp at h
          · rename_i hn
            simp only [DR.mk.injEq, and_true] at h
            obtain ⟨rfl, rfl, rfl⟩ := h
            have hv : v = t.length := by
              by_cases hv : v = t.length
              · exact hv
              · exact absurd (Or.inl hv) hn
            have hB : validB a' b' l' = true := by
              cases hB : validB a' b' l' with
              | true => rfl
              | false => exact absurd (Or.inr hB) hn
            refine ⟨?_, hB, r5⟩
            unfold encodeS
            have hcl : (l'.length : Int) = c := by rw [r1]; omega
            have ht : (t.drop u).take (t.length - u) = t.drop u := List.take_of_length_le (by simp)
            rw [hcl, ← i2, ← r4, hv, ht, List.take_append_drop]
        · rw [if_pos he'] at h
          simp only [DR.mk.injEq] at h
          exact absurd h.2.2.2 he'
    · simp at h
  · rw [if_pos he] at h
    simp only [DR.mk.injEq] at h
    exact absurd h.2.2.2 he
theorem decode_err {t : List UInt8} (h : (decodeS t).e ≠ 0) : decodeS t = ⟨0, 0, [], (decodeS t).e⟩ := by
  rw [← decode_same] at *
  revert h
  unfold decodeR
  rcases hx : intsS t with ⟨x, u, e⟩
  simp only
  intro h
  split
  · rfl
  · split
    · split
      · rfl
      · split
        · rfl
        · split
          · rfl
          · rename_i h1 x' a b c h2 h3 h4
            rw [if_neg h1] at h
            simp only at h
            rw [if_neg h2, if_neg h3, if_neg h4] at h
            exact absurd rfl h
    · rfl
end Go.Proofs.YtkfbkooobfepeaaDoor

/- The law CustodianDecode: it computes true. -/
namespace Go.Proofs.YtkfbkooobfepeaaDoor
open Go Go.Sx Sf
set_option maxRecDepth 100000
set_option linter.unusedVariables false
variable {tS : List (Nat × List SV)}
def gDecode : GS
  | [.str t], [] => if t.length ≤ 2 ^ 36 then some (.tup [.agg [.int .i64 (decodeS t).ep, .int .i64 (decodeS t).need, nlS 0 18 (decodeS t).ms.length], .int .i64 (decodeS t).e], nlM 0 47 (mcs (decodeS t).ms) [] (decodeS t).ms.length, nlN 0 (decodeS t).ms.length) else none
  | _, _ => none
theorem gDecode_eq {t : List UInt8} (ht : t.length ≤ 2 ^ 36) : gDecode [.str t] [] = some (.tup [.agg [.int .i64 (decodeS t).ep, .int .i64 (decodeS t).need, nlS 0 18 (decodeS t).ms.length], .int .i64 (decodeS t).e], nlM 0 47 (mcs (decodeS t).ms) [] (decodeS t).ms.length, nlN 0 (decodeS t).ms.length) := if_pos ht
theorem gDecode_of {f : FuncId} (h : ∀ t : List UInt8, t.length ≤ 2 ^ 36 → Fun Tryd.prog tS f [.str t] [] 0 (.tup [.agg [.int .i64 (decodeS t).ep, .int .i64 (decodeS t).need, nlS 0 18 (decodeS t).ms.length], .int .i64 (decodeS t).e]) (nlM 0 47 (mcs (decodeS t).ms) [] (decodeS t).ms.length) (nlN 0 (decodeS t).ms.length)) : FunS Tryd.prog tS f gDecode := by
  intro a0 m0 r m1 n1 hr
  unfold gDecode at hr
  split at hr
  · rename_i t
    split at hr
    · rename_i hb
      cases hr
      refine ⟨h t hb, ?_⟩
      rcases Nat.eq_zero_or_pos (decodeS t).ms.length with h0 | h0
      · rw [nlM_z h0]; simp [freshB]
      · rw [nlM_p h0]; simp [freshB]
    · cases hr
  · cases hr
theorem gDecode_err {t : List UInt8} {e : Int} (ht : t.length ≤ 2 ^ 36) (h : decodeS t = ⟨0, 0, [], e⟩) : gDecode [.str t] [] = some (.tup [.agg [.int .i64 0, .int .i64 0, .val (.slice none 0 0)], .int .i64 e], [], 0) := by
  rw [gDecode_eq ht, h]; rfl
theorem gDecode_ok {t : List UInt8} {a b : Int} {l : List Mb} (ht : t.length ≤ 2 ^ 36) (h : decodeS t = ⟨a, b, l, 0⟩) (hl : 0 < l.length) :
    gDecode [.str t] [] = some (.tup [.agg [.int .i64 a, .int .i64 b, .slc 0 0 18 l.length none], .int .i64 0], [(0, ⟨.own 47, mcs l⟩)], 1) := by
  rw [gDecode_eq ht, h]
  simp only [nlS_p hl, nlM_p hl, nlN_p hl]
def tabZ : List (FuncId × GS) := [(8, gFew), (9, gSane), (26, gDecode), (27, gDecode), (14, gSameC), (18, gEncode), (12, gValid)]
theorem tabZ_ok : ∀ x ∈ tabZ, FunS Tryd.prog tH x.1 x.2 := by
  intro x hx
  simp only [tabZ, List.mem_cons, List.not_mem_nil, or_false] at hx
  rcases hx with rfl | rfl | rfl | rfl | rfl | rfl | rfl
  · exact gFew_ok
  · exact gSane_ok
  · exact gDecode_of f26
  · exact gDecode_of fun t ht => by have := f27 (tS := tH) t ht; rwa [decode_same] at this
  · exact gSameC_ok
  · exact gEncode_ok
  · exact gValid_ok
theorem encMs_few : ∀ {l : List Mb}, Pub l → (l.all fun m => decide (m.name.length ≤ 50)) = true → (encMs l).length ≤ 100 * l.length
  | [], _, _ => by simp [encMs]
  | m :: l, hP, h => by
    simp only [List.all_cons, Bool.and_eq_true, decide_eq_true_eq] at h
    have h1 := encMs_few hP.tail h.2
    have h2 := encI_len m.name.length
    have h3 := encI_len m.h
    have h4 := hP.head
    simp only [encMs, encMb, encS, List.length_append, List.length_cons]; omega
theorem encode_few {e n : Int} {l : List Mb} (hP : Pub l) (h : fewB l = true) : (encodeS e n l).length ≤ 2 ^ 20 := by
  unfold fewB at h
  simp only [Bool.and_eq_true, decide_eq_true_eq] at h
  have h1 := encMs_few hP h.1
  have h2 := encIs3 e n (l.length : Int)
  simp only [encodeS, List.length_append]; omega
theorem okE_few {l : List Mb} (hP : Pub l) (hR : ∀ m ∈ l, R64 m.h) (h : fewB l = true) : okE l := by
  unfold fewB at h
  simp only [Bool.and_eq_true, decide_eq_true_eq, List.all_eq_true] at h
  intro m hm
  have := h.1 m hm
  exact ⟨hR m hm, by omega, hP m hm⟩
set_option maxHeartbeats 8000000 in
theorem f7 (t : List UInt8) (e n : Int) (l : List Mb) (hP : Pub l) (hR : ∀ m ∈ l, R64 m.h) (he : R64 e) (hn : R64 n) (hl : l.length ≤ 9223372036854775807) :
    Fun Tryd.prog tH 7 [.str t, .agg [.int .i64 e, .int .i64 n, .slc 0 0 18 l.length none]] [(0, ⟨.view, mcs l⟩)] 1 (.bool true) [] 1 := by
  refine fun_any none (callS tabZ cF) (callS_ok tabZ_ok cF_ok) chk7 (show 2 ≤ 74 by decide) (by decide) ?_
  unfold sf7
  have hlen := len_mcs hP
  have fl := flat_mcs l
  have tk : List.take (l.length * 18) (mcs l) = mcs l := List.take_of_length_le (by omega)
  have un := unM_mcs (f := (mcs l).length) hP (by rw [hlen]; omega)
  rw [hlen] at un
  have b0 : Nat.ble l.length 9223372036854775807 = true := Nat.ble_eq_true_of_le (by omega)
  cases hf : fewB l with
  | false =>
    simp (config := { maxSteps := 1000000 }) only [tabZ, gFew, gSane, hlen, fl, tk, un, b0, hf, SV.flatL, SV.flat, Bool.and_true, Bool.true_and, and_self, undef, lookF, setv, reduceCtorEq, Nat.reduceEqDiff, Nat.reduceAdd, Nat.reduceSub, Nat.reduceLT, eq_self,  true_and, and_true, List.length_cons, List.length_nil, List.append_nil, List.nil_append, List.take_succ_cons, List.drop_zero, List.take_nil, List.map_cons, List.map_nil, Nat.zero_add, Nat.add_zero, frOf, den_nil, den_o0, ↓gd_tt, ↓gd_tf, den_o1, kont_app, den_g, setv, Bool.not_false, den_reg, Bool.not_false, den_seq, den_cond, den_ret, den_rc, finE_r, ↓reduceIte, ↓e_box, ↓e_load, ↓e_mv, ↓e_pick, ↓e_un, ↓e_call, ↓e_callp, ↓evRes, Opd.ev, Sx.get, put, putO, del, dels, rd, SV.cells?, retOf, ↓u_callS, canLW, canV, canC, belowL, apH, apH1, SV.ren, newOwn, targets, rms, Kind.isOwn, Nat.sub_zero, Nat.le_refl]
    exact ⟨[(0, 0)], rfl, by simp [compat, apartM, keysBelow, idHs, List.take_succ_cons, List.nil_append, List.take_nil, and_self]⟩
  | true =>
  by_cases h1000 : (t.length : Int) > 1000
  · simp (config := { maxSteps := 1000000 }) only [tabZ, gFew, gSane, hlen, fl, tk, un, b0, hf, h1000, SV.flatL, SV.flat, Bool.and_true, Bool.true_and, and_self, lookF, setv, reduceCtorEq, Nat.reduceEqDiff, Nat.reduceAdd, Nat.reduceSub, Nat.reduceLT, eq_self, decide_true,  true_and, and_true, List.length_cons, List.length_nil, List.append_nil, List.nil_append, List.take_succ_cons, List.drop_zero, List.take_nil, List.map_cons, List.map_nil, Nat.zero_add, Nat.add_zero, frOf, den_nil, den_o0, ↓gd_tt, ↓gd_ff, ↓gd_ft, den_o1, kont_app, den_g, setv, Bool.not_true, den_reg, Bool.not_true, den_seq, den_cond, den_ret, den_rc, finE_r, ↓reduceIte, ↓e_box, ↓e_load, ↓e_mv, ↓e_pick, ↓e_bin, ↓e_un, ↓e_call, ↓e_callp, ↓e_len, ↓u_binV, ↓binI, ↓evRes, Opd.ev, Sx.get, put, putO, del, dels, rd, SV.cells?, retOf, ↓u_callS, canLW, canV, canC, belowL, apH, apH1, SV.ren, newOwn, targets, rms, Kind.isOwn, Nat.sub_zero, Nat.le_refl]
    exact ⟨[(0, 0)], rfl, by simp [compat, apartM, keysBelow, idHs, List.take_succ_cons, List.nil_append, List.take_nil, and_self]⟩
  have ht : t.length ≤ 2 ^ 36 := by omega
  have h20 : l.length < 9223372036854775808 := by omega
  have hE := decode_encode he hn (okE_few hP hR hf) h20
  have hel := encode_few (e := e) (n := n) hP hf
  have hel2 : (encodeS e n l).length ≤ 2 ^ 38 := by omega
  have hel3 : (encodeS e n l).length ≤ 2 ^ 36 := by omega
  have htt : (t != t) = false := by simp
  have h66 : ((6 : Int) == 0) = false := by decide
  have h66' : ((6 : Int) != 0) = true := by decide
  have hsl : sameB e n l e n l = true := sameB_yes
  have hs0 : sameB 0 0 [] 0 0 [] = true := sameB_yes
  by_cases hde : (decodeS t).e = 0
  · rcases hd : decodeS t with ⟨a, b, ms, e'⟩
    rw [hd] at hde
    simp only at hde
    subst hde
    obtain ⟨g1, g2, g3⟩ := encode_decode hd
    have hpos := valid_pos' g2
    have gd := gDecode_ok ht hd hpos
    have hlen' := len_mcs g3
    have fl' := flat_mcs ms
    have tk' : List.take (ms.length * 18) (mcs ms) = mcs ms := List.take_of_length_le (by omega)
    have un' := unM_mcs (f := (mcs ms).length) g3 (by rw [hlen']; omega)
    rw [hlen'] at un'
    have hm16 : ms.length ≤ 16 := by obtain ⟨_, ⟨_, _, h, _, _⟩, _⟩ := validB_iff.1 g2; exact h
    have b0' : Nat.ble ms.length 9223372036854775807 = true := Nat.ble_eq_true_of_le (by omega)
    have hsm : sameB a b ms a b ms = true := sameB_yes
    have ht38 : t.length ≤ 2 ^ 38 := by omega
    cases hv : validB e n l with
    | true =>
      rw [hv, if_pos rfl] at hE
      have hlp := valid_pos' hv
      have gd2 := gDecode_ok hel3 hE hlp
      simp (config := { maxSteps := 1000000 }) only [tabZ, gFew, gSane, gSameC, gEncode, gValid, ren_mcs, hlen, fl, tk, un, b0, hf, h1000, ↓gd, ↓gd2, g1, hlen', fl', tk', un', b0', hsm, ht38, hv, hsl, hel2, SV.flatL, SV.flat, Bool.and_true, Bool.true_and, beq_self_eq_true, and_self, Int.reduceBNe, lookF, setv, reduceCtorEq, Nat.reduceEqDiff, Nat.reduceAdd, Nat.reduceSub, Nat.reduceLT, false_imp_iff, eq_self, decide_false,  true_and, and_true, List.getElem?_cons_zero, List.getElem?_cons_succ, List.length_cons, List.length_nil, List.append_nil, List.nil_append, List.cons_append, List.take_succ_cons, List.take_zero, List.drop_succ_cons, List.drop_zero, List.take_nil, List.drop_nil, List.map_cons, List.map_nil, Nat.zero_add, Nat.add_zero, frOf, den_nil, den_o0, ↓gd_tt, ↓gd_ff, ↓gd_ft, den_o1, kont_app, den_g, setv, Bool.not_true, den_skip, den_reg, Bool.not_true, Bool.or_self, den_seq, den_cond, den_ret, den_rc, finE_r, ↓reduceIte, ↓e_box, ↓e_load, ↓e_store, ↓e_ext, ↓e_mv, ↓e_pick, ↓e_new, ↓e_bin, ↓e_un, ↓e_call, ↓e_callp, ↓e_len, ↓u_binV, ↓binI, ↓binS, ↓evRes, Opd.ev, Sx.get, put, putO, del, dels, rd, upd, splice, SV.cells?, retOf, ↓u_callS, canLW, canV, canC, belowL, apH, apH1, eta, SV.ren, SV.renL, newOwn, targets, rms, Kind.isOwn, List.getElem?_nil, Option.getD_none, Nat.sub_zero, Nat.le_refl]
      exact ⟨[(0, 0)], rfl, by simp [compat, apartM, keysBelow, idHs, List.take_succ_cons, List.nil_append, List.take_nil, and_self]⟩
    | false =>
      rw [hv, if_neg (by simp)] at hE
      have gd2 := gDecode_err hel3 hE
      simp (config := { maxSteps := 1000000 }) only [tabZ, gFew, gSane, gSameC, gEncode, gValid, ren_mcs, hlen, fl, tk, un, b0, hf, h1000, ↓gd, ↓gd2, g1, hlen', fl', tk', un', b0', hsm, ht38, hv, hel2, h66', SV.flatL, SV.flat, Bool.and_true, Bool.true_and, beq_self_eq_true, and_self, Int.reduceBNe, lookF, setv, reduceCtorEq, Nat.reduceEqDiff, Nat.reduceAdd, Nat.reduceSub, Nat.reduceLT, false_imp_iff, eq_self, decide_false,  true_and, and_true, List.getElem?_cons_zero, List.getElem?_cons_succ, List.length_cons, List.length_nil, List.append_nil, List.nil_append, List.cons_append, List.take_succ_cons, List.take_zero, List.drop_succ_cons, List.drop_zero, List.take_nil, List.drop_nil, List.map_cons, List.map_nil, Nat.zero_add, Nat.add_zero, frOf, den_nil, den_o0, ↓gd_tt, ↓gd_ff, ↓gd_ft, den_o1, kont_app, den_g, setv, Bool.not_true, den_skip, den_reg, Bool.not_true, Bool.or_self, den_seq, den_cond, den_ret, finE_r, ↓reduceIte, ↓e_box, ↓e_load, ↓e_store, ↓e_ext, ↓e_mv, ↓e_pick, ↓e_new, ↓e_bin, ↓e_un, ↓e_call, ↓e_callp, ↓e_len, ↓u_binV, ↓binI, ↓binS, ↓evRes, Opd.ev, Sx.get, put, putO, del, dels, rd, upd, splice, SV.cells?, retOf, ↓u_callS, canLW, canV, canC, belowL, apH, apH1, eta, SV.ren, SV.renL, newOwn, targets, rms, Kind.isOwn, List.getElem?_nil, Option.getD_none, Nat.sub_zero, Nat.le_refl]
      exact ⟨[(0, 0)], rfl, by simp [compat, apartM, keysBelow, idHs, List.take_succ_cons, List.nil_append, List.take_nil, and_self]⟩
  · have hd := decode_err hde
    generalize (decodeS t).e = e' at *
    have gd := gDecode_err ht hd
    have hee : (e' != e') = false := by simp
    have he0 : (e' == 0) = false := by simpa using hde
    cases hv : validB e n l with
    | true =>
      rw [hv, if_pos rfl] at hE
      have hlp := valid_pos' hv
      have gd2 := gDecode_ok hel3 hE hlp
      simp (config := { maxSteps := 1000000 }) only [tabZ, gFew, gSane, gSameC, gEncode, gValid, ren_mcs, hlen, fl, tk, un, b0, hf, h1000, ↓gd, ↓gd2, hee, he0, hs0, hv, hsl, hel2, SV.flatL, SV.flat, Bool.and_true, Bool.and_self, Bool.true_and, beq_self_eq_true, and_self, undef, lookF, setv, reduceCtorEq, Nat.reduceEqDiff, Nat.reduceAdd, Nat.reduceSub, Nat.reduceLT, false_imp_iff, eq_self, decide_false,  true_and, and_true, List.getElem?_cons_zero, List.getElem?_cons_succ, List.length_cons, List.length_nil, List.append_nil, List.nil_append, List.cons_append, List.take_succ_cons, List.take_zero, List.drop_succ_cons, List.drop_zero, List.take_nil, List.drop_nil, List.map_cons, List.map_nil, Nat.zero_add, Nat.add_zero, frOf, den_nil, den_o0, ↓gd_tt, ↓gd_ff, ↓gd_ft, den_o1, kont_app, den_g, setv, Bool.not_true, den_skip, den_reg, Bool.not_true, Bool.or_self, den_seq, den_cond, den_ret, den_rc, finE_r, ↓reduceIte, ↓e_box, ↓e_load, ↓e_store, ↓e_ext, ↓e_mv, ↓e_pick, ↓e_new, ↓e_bin, ↓e_un, ↓e_call, ↓e_callp, ↓e_len, ↓u_binV, ↓binI, ↓evRes, Opd.ev, Sx.get, put, putO, del, dels, rd, upd, splice, SV.cells?, retOf, ↓u_callS, canLW, canV, canC, belowL, apH, apH1, eta, SV.ren, SV.renL, newOwn, targets, rms, Kind.isOwn, List.getElem?_nil, Option.getD_none, Nat.sub_zero, Nat.le_refl]
      exact ⟨[(0, 0)], rfl, by simp [compat, apartM, keysBelow, idHs, List.take_succ_cons, List.nil_append, List.take_nil, and_self]⟩
    | false =>
      rw [hv, if_neg (by simp)] at hE
      have gd2 := gDecode_err hel3 hE
      simp (config := { maxSteps := 1000000 }) only [tabZ, gFew, gSane, gSameC, gEncode, gValid, hlen, fl, tk, un, b0, hf, h1000, ↓gd, ↓gd2, hee, he0, hs0, hv, hel2, h66', SV.flatL, SV.flat, Bool.and_true, Bool.and_self, Bool.true_and, and_self, undef, lookF, setv, reduceCtorEq, Nat.reduceEqDiff, Nat.reduceAdd, Nat.reduceSub, Nat.reduceLT, eq_self, decide_false,  true_and, and_true, List.getElem?_cons_zero, List.getElem?_cons_succ, List.length_cons, List.length_nil, List.append_nil, List.nil_append, List.take_succ_cons, List.take_zero, List.drop_succ_cons, List.drop_zero, List.take_nil, List.drop_nil, List.map_cons, List.map_nil, Nat.zero_add, Nat.add_zero, frOf, den_nil, den_o0, ↓gd_tt, ↓gd_ff, ↓gd_ft, den_o1, kont_app, den_g, setv, Bool.not_true, den_skip, den_reg, Bool.not_true, den_seq, den_cond, den_ret, finE_r, ↓reduceIte, ↓e_box, ↓e_load, ↓e_store, ↓e_ext, ↓e_mv, ↓e_pick, ↓e_new, ↓e_bin, ↓e_un, ↓e_call, ↓e_callp, ↓e_len, ↓u_binV, ↓binI, ↓evRes, Opd.ev, Sx.get, put, putO, del, dels, rd, upd, splice, SV.cells?, retOf, ↓u_callS, canLW, canV, canC, belowL, apH, apH1, SV.ren, SV.renL, newOwn, targets, rms, Kind.isOwn, Nat.sub_zero, Nat.le_refl]
      exact ⟨[(0, 0)], rfl, by simp [compat, apartM, keysBelow, idHs, List.take_succ_cons, List.nil_append, List.take_nil, and_self]⟩
end Go.Proofs.YtkfbkooobfepeaaDoor
