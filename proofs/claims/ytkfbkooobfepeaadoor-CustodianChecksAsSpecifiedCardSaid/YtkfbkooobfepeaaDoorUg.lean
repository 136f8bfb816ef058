/- The proof, part Ug: the texts StrA, RotC, StrB, WirA, WirB, StrC, RotA, RotB, RotD, SfD, MemA, MemB, MemC, DgA, WirC, WirD, WirE, WirF, PlaA, PlaB, RotE, RotF, DgB, MrA, MrB, MrC, MrD. -/
import Derived.Test.YtkfbkooobfepeaaDoorUf
set_option linter.unusedSimpArgs false
set_option linter.unusedVariables false
/- The stream of package hash: Begin and Add. -/
namespace Go.Proofs.YtkfbkooobfepeaaDoor
open Go Go.Sx Sf
set_option maxRecDepth 100000
set_option linter.unusedVariables false
variable {tS : List (Nat × List SV)}
theorem f52 : Fun Tryd.prog tS 52 [] [] 0 (.agg hs0.l) [] 0 := by
  refine fun_pure none cF cF_ok chk52 (show 0 ≤ 3 by decide) (fun η => by simp only [SV.ren, HS.l_ren]) ?_
  unfold sf52 oq ov
  simp (config := { maxSteps := 1000000 }) only [reduceCtorEq, Nat.reduceEqDiff, Nat.reduceAdd, Nat.reduceLeDiff, eq_self, frOf, ↓reduceIte, ↓fillE, ↓evRes, Opd.ev, Sx.get, put, putO, del, dels, rd, upd, splice, SV.cells?, SV.one, retOf, BB, ↓PB]
  rfl
def tabSt : List (FuncId × GS) := [(73, g73)]
theorem tabSt_ok : ∀ x ∈ tabSt, FunS Tryd.prog tH x.1 x.2 := by
  intro x hx
  simp only [tabSt, List.mem_cons, List.not_mem_nil, or_false] at hx
  subst hx
  exact g73_ok
def cSt : CallT := callS tabSt cF
theorem cSt_ok : ∀ f a m n K, cSt f a m n K → callT Tryd.prog tH f a m n K := callS_ok tabSt_ok cF_ok
theorem splice_app {a b c d : List SV} {k : Nat} (hk : k = a.length) (hd : d.length = b.length) : splice (a ++ (b ++ c)) k d = a ++ (d ++ c) := by
  unfold splice
  subst hk
  rw [List.take_left, List.append_assoc, hd, ← List.append_assoc a b c, ← List.length_append, List.drop_left]
theorem u32_8 (s : V8) : (s.l.map u32).length = 8 := rfl
theorem l_s0 {s s' : V8} {b : List UInt8} {n : Nat} : splice (HS.mk s b n).l 0 (s'.l.map u32) = (HS.mk s' b n).l := by
  unfold HS.l
  have := splice_app (a := []) (b := s.l.map u32) (c := bys b ++ [.int .u64 (n : Int)]) (k := 0) (d := s'.l.map u32) rfl rfl
  simpa using this
theorem V8.l_len (s : V8) : s.l.length = 8 := rfl
theorem l_n72 {s : V8} {b : List UInt8} {n n' : Nat} (hb : b.length = 64) : splice (HS.mk s b n).l 72 [.int .u64 (n' : Int)] = (HS.mk s b n').l := by
  unfold HS.l
  have := splice_app (a := s.l.map u32 ++ bys b) (b := [.int .u64 (n : Int)]) (c := []) (k := 72) (d := [.int .u64 (n' : Int)]) (by simp [V8.l_len, len_bytes, hb]) rfl
  simpa using this
theorem l_over {s : V8} {b t : List UInt8} {n k : Nat} (hb : b.length = 64) (hk : k + t.length ≤ 64) : splice (HS.mk s b n).l (8 + k) (bys t) = (HS.mk s (over b t k) n).l := by
  unfold HS.l over
  have e : bys b = bys (b.take k) ++ (bys ((b.drop k).take t.length) ++ bys (b.drop (k + t.length))) := by
    simp only [bytes_app]
    congr 1
    rw [← List.drop_drop, List.take_append_drop, List.take_append_drop]
  have := splice_app (a := s.l.map u32 ++ bys (b.take k)) (b := bys ((b.drop k).take t.length)) (c := bys (b.drop (k + t.length)) ++ [.int .u64 (n : Int)]) (k := 8 + k) (d := bys t)
    (by simp [V8.l_len, len_bytes, hb]; omega) (by simp [len_bytes, hb]; omega)
  simp only
  rw [e, ← bytes_app, ← bytes_app]
  simp only [List.append_assoc] at this ⊢
  exact this
theorem l_t8 {h : HS} : List.take 8 h.l = h.s.l.map u32 := by
  unfold HS.l
  exact List.take_left' rfl
theorem l_d8 {s : V8} {b : List UInt8} {n : Nat} (hb : b.length = 64) : List.take 64 (List.drop 8 (HS.mk s b n).l) = bys b := by
  unfold HS.l
  simp only
  rw [List.drop_left' (u32_8 s), List.take_left' (by simp [len_bytes, hb])]
theorem over_len {b t : List UInt8} {k : Nat} (hb : b.length = 64) (hk : k + t.length ≤ 64) : (over b t k).length = 64 := by
  unfold over; simp; omega
theorem rem_nat {n : Nat} (h : n < 2 ^ 60) : IntKind.i64.wrap (Int.tmod (n : Int) 64) = ((n % 64 : Nat) : Int) := by
  have e : Int.tmod (n : Int) 64 = ((n % 64 : Nat) : Int) := (Int.ofNat_tmod n 64).symm
  rw [e, wrap64_eq (by omega) (by omega)]
def hz0 : HS := ⟨⟨0, 0, 0, 0, 0, 0, 0, 0⟩, List.replicate 64 0, 0⟩
theorem g73_eq {s : V8} {b : List UInt8} {cap : Option Nat} (hb : b.length = 64) (hc : capB cap 64 = true) :
    g73 [.agg [.int .u32 s.a, .int .u32 s.b, .int .u32 s.c, .int .u32 s.d, .int .u32 s.e, .int .u32 s.f, .int .u32 s.g, .int .u32 s.h], .slc 0 0 1 64 cap] [(0, ⟨.view, bys b⟩)] = some (.agg ((comp s (byI b)).l.map u32), [], 1) := by
  unfold g73
  simp only
  rw [← bys_u8, unI8_map]
  simp only [byI_len, hb, hc]
set_option maxHeartbeats 4000000 in
theorem f53 (h : HS) (t : List UInt8) (hb : h.b.length = 64) (hn : h.n + t.length < 2 ^ 60) : Fun Tryd.prog tH 53 [.agg h.l, .str t] [] 0 (.agg (h.add t).l) [] 0 := by
  refine fun_pure none cSt cSt_ok chk53 (show 2 ≤ 38 by decide) (fun η => by simp only [SV.ren, HS.l_ren]) ?_
  unfold sf53 oh om oq ov
  have hl := HS.l_len hb
  have ht := HS.l_take hb
  have rH : ∀ η (h : HS), SV.renL η h.l = h.l := HS.l_ren
  have hzl : hz0.l.length = 73 := HS.l_len rfl
  simp (config := { maxSteps := 1000000 }) only [cSt, tabSt, reduceCtorEq, Nat.reduceEqDiff, Nat.reduceAdd, eq_self, frOf, ↓reduceIte, Opd.ev, Sx.get, put, putO, del, dels, SV.cells?, BB, ↓PB]
  rw [den_loop]
  refine den_inv cSt_ok (σ := HS × List UInt8) (fun x => [(4, .ptr 1 0), (2, .ptr 0 0), (1, .str x.2)]) (fun x => [(1, ⟨.own 86, hz0.l⟩), (0, ⟨.own 86, x.1.l⟩)]) (fun _ => 2)
    (fun x => x.1.b.length = 64 ∧ x.1.n + x.2.length < 2 ^ 60 ∧ x.1.add x.2 = h.add t) (fun x => x.2.length) (h, t) ?_ ⟨hb, hn, rfl⟩ ?_
  · exact ⟨[(0, 0), (1, 0)], by simp only [rH, EntM, compat, apartM, keysBelow, eta, idHs, rd, Nat.reduceAdd, Nat.reduceSub, Nat.reduceLT, Nat.reduceLeDiff, ↓reduceIte, Kind.isOwn, exists_eq_left', ne_eq, implies_true, false_imp_iff, forall_const, forall_eq, BB]; rfl, by simp [frEnt, geto, eta, SV.ren, Nat.reduceAdd, Nat.reduceEqDiff, Nat.reduceLeDiff, ↓reduceIte, BB]⟩
  · rintro ⟨⟨s, b, n⟩, u⟩ ⟨hb', hn', hx⟩
    simp only at hb' hn' hx ⊢
    have hl' := HS.l_len (h := ⟨s, b, n⟩) hb'
    have ht' := HS.l_take (h := ⟨s, b, n⟩) hb'
    have hg' := HS.l_n (h := ⟨s, b, n⟩) hb'
    by_cases h0 : u = []
    · subst h0
      simp (config := { maxSteps := 1000000 }) only [hl', ht', hzl, reduceCtorEq, Nat.reduceEqDiff, eq_self, ↓reduceIte, ↓binS, ↓evRes, Opd.ev, Sx.get, put, putO, del, dels, rd, upd, SV.cells?, retOf, BB, ↓PB]
      have hx2 : HS.mk s b n = h.add t := hx
      rw [← hx2]
      rw [show splice hz0.l 0 (HS.mk s b n).l = (HS.mk s b n).l by
        have := splice_app (a := []) (b := hz0.l) (c := []) (k := 0) (d := (HS.mk s b n).l) rfl (by rw [hzl, hl'])
        simpa using this]
      exact ⟨by omega, ht'⟩
    · have hu : 0 < u.length := List.length_pos_iff.mpr h0
      have hnn : n < 2 ^ 60 := by omega
      have e1 := rem_nat (n := n) hnn
      have hbeq : (u == []) = false := by cases u with
        | nil => exact absurd rfl h0
        | cons x y => rfl
      have ha : n % 64 < 64 := Nat.mod_lt _ (by decide)
      have hch := HS.add_chunk (u.take (min u.length (64 - n % 64))) ⟨s, b, n⟩ hb' (fun e => by
          have h1 : (u.take (min u.length (64 - n % 64))).length = 0 := by rw [e]; rfl
          rw [List.length_take] at h1; omega) (by simp only [List.length_take]; omega)
      have hsp : (u.take (min u.length (64 - n % 64))) ++ u.drop (min u.length (64 - n % 64)) = u := List.take_append_drop _ _
      generalize hat : n % 64 = a at *
      generalize hk : min u.length (64 - a) = k at *
      have k1 : 0 < k := by omega
      have k2 : k ≤ u.length := by omega
      have k3 : a + k ≤ 64 := by omega
      have tl : (u.take k).length = k := by simp; omega
      have bt : List.take k (bys u) = bys (u.take k) := by simp [bys, List.map_take]
      have lo := l_over (s := s) (b := b) (t := u.take k) (n := n) (k := a) hb' (by omega)
      have hb2 := over_len (b := b) (t := u.take k) (k := a) hb' (by omega)
      generalize hb2e : over b (u.take k) a = b2 at *
      have hg2 := HS.l_n (h := ⟨s, b2, n⟩) hb2
      have l72 := l_n72 (s := s) (b := b2) (n := n) (n' := n + k) hb2
      have hl2 := HS.l_len (h := ⟨s, b2, n⟩) hb2
      have hl3 := HS.l_len (h := ⟨s, b2, n + k⟩) hb2
      have wk : IntKind.u64.wrap (k : Int) = (k : Int) := by rw [show IntKind.u64.wrap (k : Int) = (k : Int) % 18446744073709551616 by simp [IntKind.wrap, IntKind.bits, IntKind.signed]]; omega
      have wn : IntKind.u64.wrap ((n : Int) + (k : Int)) = ((n + k : Nat) : Int) := by rw [show IntKind.u64.wrap ((n : Int) + (k : Int)) = ((n : Int) + (k : Int)) % 18446744073709551616 by simp [IntKind.wrap, IntKind.bits, IntKind.signed]]; omega
      have wa : IntKind.i64.wrap ((a : Int) + (k : Int)) = ((a + k : Nat) : Int) := by rw [wrap64_eq (by omega) (by omega)]; omega
      have ht8 : List.take 8 (HS.mk s b2 (n + k)).l = [.int .u32 s.a, .int .u32 s.b, .int .u32 s.c, .int .u32 s.d, .int .u32 s.e, .int .u32 s.f, .int .u32 s.g, .int .u32 s.h] := l_t8
      have hd8 := l_d8 (s := s) (b := b2) (n := n + k) hb2
      have dk : List.take (u.length - k) (List.drop k u) = List.drop k u := List.take_of_length_le (by simp)
      have rw3 : ∀ η (s : V8), SV.renL η (s.l.map u32) = s.l.map u32 := fun η s => ren_w η _
      by_cases h64 : a + k = 64
      · have c64 : (((a + k : Nat) : Int) == 64) = true := by simp; omega
        simp (config := { maxSteps := 1000000 }) only [hl', hg', e1, hk, bt, lo, hg2, l72, hl2, hl3, wk, wn, wa, ht8, hd8, c64, hbeq, dk, rw3, l_s0, ↓g73_eq (cap := some 64) hb2 rfl, SV.flatL, SV.flat, lookF, reduceCtorEq, Nat.reduceEqDiff, Nat.reduceAdd, Nat.reduceSub, Nat.reduceLeDiff, Nat.reduceLT, Int.reduceToNat, Int.reduceLE, Int.reduceNe, eq_self, ↓reduceIte, ↓binI, ↓binS, evA, Opd.ev, Sx.get, put, putO, del, dels, frD, memD, pickD, kills, views, newer, rd, upd, SV.cells?, SV.one, canLW, canV, canC, belowL, apH, apH1, SV.ren, newOwn, targets, rms, Kind.isOwn, BB, ↓PB]
        refine ⟨by omega, by omega, by omega, by omega, by omega, by omega, rfl, (⟨comp s (byI b2), b2, n + k⟩, u.drop k), ⟨[(0, 0), (1, 0)], by simp only [rH, EntM, compat, apartM, keysBelow, eta, idHs, rd, Nat.reduceAdd, Nat.reduceSub, Nat.reduceLT, Nat.reduceLeDiff, ↓reduceIte, Kind.isOwn, exists_eq_left', ne_eq, implies_true, false_imp_iff, forall_const, forall_eq, BB], by simp [frEnt, geto, eta, SV.ren, Nat.reduceAdd, Nat.reduceEqDiff, Nat.reduceLeDiff, ↓reduceIte, BB]⟩, ⟨hb2, by simp only [List.length_drop]; omega, ?_⟩, by simp only [List.length_drop]; omega⟩
        rw [tl, if_pos h64] at hch
        simp only at hch ⊢
        rw [← hch, HS.add_app, hsp]
        exact hx
      · have c64 : (((a + k : Nat) : Int) == 64) = false := by simp; omega
        simp (config := { maxSteps := 1000000 }) only [hl', hg', e1, hk, bt, lo, hg2, l72, hl2, wk, wn, wa, c64, hbeq, dk, reduceCtorEq, Nat.reduceEqDiff, Nat.reduceAdd, Int.reduceToNat, Int.reduceLE, Int.reduceNe, eq_self, ↓reduceIte, ↓binI, ↓binS, Opd.ev, Sx.get, put, putO, del, dels, rd, upd, SV.cells?, SV.one, BB, ↓PB]
        refine ⟨by omega, by omega, by omega, by omega, by omega, by omega, (⟨s, b2, n + k⟩, u.drop k), ⟨[(0, 0), (1, 0)], by simp only [rH, EntM, compat, apartM, keysBelow, eta, idHs, rd, Nat.reduceAdd, Nat.reduceSub, Nat.reduceLT, Nat.reduceLeDiff, ↓reduceIte, Kind.isOwn, exists_eq_left', ne_eq, implies_true, false_imp_iff, forall_const, forall_eq, BB], by simp [frEnt, geto, eta, SV.ren, Nat.reduceAdd, Nat.reduceEqDiff, Nat.reduceLeDiff, ↓reduceIte, BB]⟩, ⟨hb2, by simp only [List.length_drop]; omega, ?_⟩, by simp only [List.length_drop]; omega⟩
        rw [tl, if_neg h64] at hch
        simp only at hch ⊢
        rw [← hch, HS.add_app, hsp]
        exact hx
end Go.Proofs.YtkfbkooobfepeaaDoor

/- The reference's padding of a message. -/
namespace Go.Proofs.YtkfbkooobfepeaaDoor
open Go Go.Sx Sf
set_option maxRecDepth 100000
set_option linter.unusedVariables false
variable {tS : List (Nat × List SV)}
def padA (m : List UInt8) (j : Nat) : List UInt8 := m ++ (128 :: List.replicate j 0)
def padC (m : List UInt8) (i : Nat) : List UInt8 := padA m (padZ m.length) ++ (List.range i).map (lenB m.length)
theorem padA_len (m : List UInt8) (j : Nat) : (padA m j).length = m.length + 1 + j := by simp [padA]; omega
theorem padC_len (m : List UInt8) (i : Nat) : (padC m i).length = m.length + 1 + padZ m.length + i := by simp [padC, padA_len]
theorem padA_step (m : List UInt8) (j : Nat) : padA m j ++ [0] = padA m (j + 1) := by
  unfold padA
  rw [List.append_assoc, List.cons_append, List.replicate_succ']
theorem padC_step (m : List UInt8) (i : Nat) : padC m i ++ [lenB m.length i] = padC m (i + 1) := by
  unfold padC
  rw [List.append_assoc, List.range_succ, List.map_append]; rfl
theorem padC_z (m : List UInt8) : padC m 0 = padA m (padZ m.length) := by simp [padC]
theorem padC_all (m : List UInt8) : padC m 8 = m ++ padS m.length := by simp [padC, padA, padS, lenBs]
set_option maxHeartbeats 4000000 in
theorem f88 (m : List UInt8) (hm : m.length ≤ 2 ^ 38) (cap : Option Nat) (hcap : CapOk cap m.length) : Fun Tryd.prog tS 88 [.slc 0 0 1 m.length cap] [(0, ⟨.view, bys m⟩)] 1 (.slc 1 0 1 (m ++ padS m.length).length none) [(1, ⟨.own 5, bys (m ++ padS m.length)⟩)] 2 := by
  refine fun_any none cF cF_ok chk88 (show 1 ≤ 37 by decide) (by decide) ?_
  unfold sf88 om oq
  simp (config := { maxSteps := 1000000 }) only [reduceCtorEq, Nat.reduceEqDiff, Nat.reduceAdd, eq_self, frOf, ↓reduceIte, ↓fillE, Opd.ev, Sx.get, put, putO, del, dels, rd, rm, splice, SV.cells?, SV.one, BB, ↓PB]
  have w0 : (128 : UInt8).toNat = 128 := rfl
  have e0 : bys m ++ [SV.int .u8 128] = bys (padA m 0) := by simp only [padA, List.replicate_zero, ← bytes_app]; rfl
  have es : ∀ j, bys (padA m j) ++ [SV.int .u8 0] = bys (padA m (j + 1)) := fun j => by rw [← padA_step, ← bytes_app]; rfl
  rw [e0]
  refine ⟨by omega, by omega, by omega, by omega, ?_⟩
  rw [den_loop]
  refine den_inv cF_ok (σ := Nat) (fun j => [(3, .slc 1 0 1 (m.length + 1 + j) none), (0, .slc 0 0 1 m.length cap)]) (fun j => [(1, ⟨.own 5, bys (padA m j)⟩), (0, ⟨.view, bys m⟩)]) (fun _ => 2)
    (fun j => j ≤ padZ m.length) (fun j => padZ m.length - j) 0 ?_ (Nat.zero_le _) ?_
  · exact ⟨[(0, 0), (4, 0)], by simp [EntM, compat, apartM, keysBelow, eta, idHs, rd, Nat.reduceAdd, Nat.reduceLeDiff, ↓reduceIte, Kind.isOwn, exists_eq_left', ne_eq, implies_true, forall_const, reduceCtorEq, forall_eq, BB], by simp [frEnt, geto, eta, SV.ren, Nat.reduceAdd, Nat.reduceLeDiff, ↓reduceIte, reduceCtorEq, BB]⟩
  · intro j hj
    have hz := padZ_le m.length
    have r1 : Int.tmod ((m.length + 1 + j : Nat) : Int) 64 = (((m.length + 1 + j) % 64 : Nat) : Int) := (Int.ofNat_tmod _ 64).symm
    have r2 := rem_nat (n := m.length + 1 + j) (by omega)
    have tk : List.take (m.length + 1 + j) (bys (padA m j)) = bys (padA m j) := List.take_of_length_le (by rw [len_bytes, padA_len]; omega)
    have ln : (padA m j).length = m.length + 1 + j := padA_len m j
    by_cases hj2 : j < padZ m.length
    · have c : ((((m.length + 1 + j) % 64 : Nat) : Int) != 56) = true := by
        have := padZ_not hj2
        rw [show m.length + 1 + j = m.length + (1 + j) by omega]
        simp; omega
      simp (config := { maxSteps := 1000000 }) only [r1, c, tk, ln, es, reduceCtorEq, Nat.reduceEqDiff, Nat.reduceAdd, Int.reduceNe, eq_self, ↓reduceIte, ↓binI, ↓fillE, Opd.ev, Sx.get, put, putO, del, dels, rd, rm, splice, SV.cells?, SV.one, BB, ↓PB]
      exact ⟨by omega, by omega, j + 1, ⟨[(0, 0), (3, 0)], by simp [EntM, compat, apartM, keysBelow, eta, idHs, rd, Nat.reduceAdd, Nat.reduceLeDiff, ↓reduceIte, Kind.isOwn, exists_eq_left', ne_eq, implies_true, forall_const, reduceCtorEq, forall_eq, BB], by simp [Nat.add_assoc, frEnt, geto, eta, SV.ren, Nat.reduceAdd, Nat.reduceLeDiff, ↓reduceIte, reduceCtorEq, BB]⟩, by omega, by omega⟩
    · obtain rfl : j = padZ m.length := by omega
      have c : ((((m.length + 1 + padZ m.length) % 64 : Nat) : Int) != 56) = false := by
        have := padZ_ok m.length
        rw [show m.length + 1 + padZ m.length = m.length + (1 + padZ m.length) by omega]
        simp; omega
      simp (config := { maxSteps := 1000000 }) only [r1, c, reduceCtorEq, Nat.reduceEqDiff, Int.reduceNe, eq_self, ↓reduceIte, ↓binI, Opd.ev, Sx.get, put, putO, del, dels, BB, ↓PB]
      have wl : IntKind.u64.wrap (m.length : Int) = (m.length : Int) := by rw [show IntKind.u64.wrap (m.length : Int) = (m.length : Int) % 18446744073709551616 by simp [IntKind.wrap, IntKind.bits, IntKind.signed]]; omega
      rw [wl, ← padC_z]
      generalize hN : IntKind.u64.wrap (8 * (m.length : Int)) = N
      rw [den_loop]
      refine den_inv cF_ok (σ := Nat) (fun i => [(5, .int .i64 (i : Int)), (4, .int .u64 N), (3, .slc 1 0 1 (m.length + 1 + padZ m.length + i) none)]) (fun i => [(1, ⟨.own 5, bys (padC m i)⟩)]) (fun _ => 2)
        (fun i => i ≤ 8) (fun i => 8 - i) 0 ?_ (Nat.zero_le _) ?_
      · exact ⟨[(0, 0), (1, 0)], by simp [EntM, compat, apartM, keysBelow, eta, idHs, rd, Nat.reduceAdd, Nat.reduceLeDiff, ↓reduceIte, Kind.isOwn, exists_eq_left', ne_eq, implies_true, forall_const, BB], by simp [frEnt, geto, eta, SV.ren, Nat.reduceAdd, Nat.reduceEqDiff, Nat.reduceLeDiff, ↓reduceIte, BB]⟩
      · intro i hi
        have tk2 : List.take (m.length + 1 + padZ m.length + i) (bys (padC m i)) = bys (padC m i) := List.take_of_length_le (by rw [len_bytes, padC_len]; omega)
        have ln2 : (padC m i).length = m.length + 1 + padZ m.length + i := padC_len m i
        by_cases h8 : i < 8
        · have c1 : (i : Int) < 8 := by omega
          have v1 : IntKind.i64.wrap (8 * (i : Int)) = ((8 * i : Nat) : Int) := by rw [wrap64_eq (by omega) (by omega)]; omega
          have v2 : IntKind.i64.wrap (56 - ((8 * i : Nat) : Int)) = ((56 - 8 * i : Nat) : Int) := by rw [wrap64_eq (by omega) (by omega)]; omega
          have v3 : (0 : Int) ≤ ((56 - 8 * i : Nat) : Int) := by omega
          have v4 : IntKind.i64.wrap ((i : Int) + 1) = ((i + 1 : Nat) : Int) := by rw [wrap64_eq (by omega) (by omega)]; omega
          have eb : bys (padC m i) ++ [SV.int .u8 (IntKind.u8.wrap (N.fdiv (2 ^ (min (56 - 8 * i) IntKind.u64.bits))))] = bys (padC m (i + 1)) := by
            rw [← padC_step, ← bytes_app1, wrapB_sv]
            unfold lenB
            rw [hN]
          simp (config := { maxSteps := 1000000 }) only [c1, v1, v2, v3, v4, tk2, ln2, eb, Nat.reduceEqDiff, Nat.reduceAdd, eq_self, ↓reduceIte, ↓binI, ↓fillE, Opd.ev, Sx.get, put, putO, del, dels, rd, rm, splice, SV.cells?, SV.one, BB, ↓PB]
          exact ⟨by omega, by omega, i + 1, ⟨[(0, 0), (3, 0)], by simp [EntM, compat, apartM, keysBelow, eta, idHs, rd, Nat.reduceAdd, Nat.reduceLeDiff, ↓reduceIte, Kind.isOwn, exists_eq_left', ne_eq, implies_true, forall_const, BB], by simp [Nat.add_assoc, frEnt, geto, eta, SV.ren, Nat.reduceAdd, Nat.reduceEqDiff, Nat.reduceLeDiff, ↓reduceIte, BB]⟩, by omega, by omega⟩
        · obtain rfl : i = 8 := by omega
          simp (config := { maxSteps := 1000000 }) only [Nat.reduceEqDiff, Int.reduceLT, eq_self, ↓reduceIte, ↓binI, ↓evRes, Opd.ev, Sx.get, put, putO, del, dels, retOf, eta, SV.ren, BB, ↓PB]
          rw [← ln2, padC_all]
          exact ⟨[(0, 0), (1, 0)], by simp [EntM, compat, apartM, keysBelow, eta, idHs, rd, Nat.reduceAdd, Nat.reduceLeDiff, ↓reduceIte, Kind.isOwn, exists_eq_left', ne_eq, implies_true, forall_const, BB], by simp [Nat.reduceAdd, Nat.reduceLeDiff, BB]⟩
def gPad : GS
  | [.slc 0 0 1 len cap], [(0, ⟨.view, cells⟩)] => match unB cells with
    | some m => match capB cap m.length with
      | true => if len = m.length ∧ m.length ≤ 2 ^ 38 then some (.slc 1 0 1 (m ++ padS m.length).length none, [(1, ⟨.own 5, bys (m ++ padS m.length)⟩)], 2) else none
      | _ => none
    | none => none
  | _, _ => none
theorem gPad_ok : FunS Tryd.prog tS 88 gPad := by
  intro a0 m0 r m1 n1 h
  unfold gPad at h
  split at h
  · split at h
    · rename_i m hm
      split at h
      · rename_i hcap
        split at h
        · rename_i hc
          cases h
          obtain ⟨rfl, h2⟩ := hc
          rw [unB_some hm]
          exact ⟨f88 m h2 _ (capB_ok hcap), by simp [freshB]⟩
        · cases h
      · cases h
    · cases h
  · cases h
end Go.Proofs.YtkfbkooobfepeaaDoor

/- The stream of package hash: Sum. -/
namespace Go.Proofs.YtkfbkooobfepeaaDoor
open Go Go.Sx Sf
set_option maxRecDepth 100000
set_option linter.unusedVariables false
variable {tS : List (Nat × List SV)}
def gAdd : List SV → Option SV
  | [.agg l, .str t] => match unHS l with
    | some h => if h.b.length = 64 ∧ h.n + t.length < 2 ^ 60 then some (.agg (h.add t).l) else none
    | none => none
  | _ => none
theorem gAdd_eq {h : HS} {t : List UInt8} (hb : h.b.length = 64) (hn : h.n + t.length < 2 ^ 60) : gAdd [.agg h.l, .str t] = some (.agg (h.add t).l) := by
  simp only [gAdd]
  rw [unHS_l hb]
  simp only
  rw [if_pos ⟨hb, hn⟩]
def tabAdd : Tab := ⟨[(53, gAdd)], []⟩
theorem tabAdd_ok : TabX Tryd.prog tH tabAdd := by
  refine ⟨fun x h args r hr => ?_, fun x h => by simp [tabAdd] at h⟩
  simp only [tabAdd, List.mem_singleton] at h
  subst h
  simp only at hr
  unfold gAdd at hr
  split at hr
  · split at hr
    · rename_i h hh
      split at hr
      · rename_i hc
        cases hr
        rw [unHS_some hh]
        exact ⟨f53 h _ hc.1 hc.2, fun η => by simp only [SV.renL, SV.ren, HS.l_ren], fun η => by simp only [SV.renL, SV.ren, HS.l_ren]⟩
      · cases hr
    · cases hr
  · cases hr
def padQ (n i : Nat) : List UInt8 := padA [] (padZ n) ++ (List.range i).map (lenB n)
theorem padQ_len (n i : Nat) : (padQ n i).length = 1 + padZ n + i := by simp [padQ, padA_len]
theorem padQ_z (n : Nat) : padQ n 0 = padA [] (padZ n) := by simp [padQ]
theorem padQ_step (n i : Nat) : padQ n i ++ [lenB n i] = padQ n (i + 1) := by
  unfold padQ
  rw [List.append_assoc, List.range_succ, List.map_append]; rfl
theorem padQ_all (n : Nat) : padQ n 8 = padS n := by simp [padQ, padA, padS, lenBs]
def outC (s : V8) (i : Nat) : List SV := bys ((List.range i).map (outB s)) ++ List.replicate (32 - i) (.int .u8 0)
def z32 : List SV := List.replicate 32 (.int .u8 0)
theorem outC_z (s : V8) : outC s 0 = z32 := rfl
theorem outC_len {s : V8} {i : Nat} (h : i ≤ 32) : (outC s i).length = 32 := by simp [outC, len_bytes]; omega
theorem outC_all (s : V8) : outC s 32 = bys (outS s) := by simp [outC, outS]
theorem outC_put {s : V8} {i : Nat} (h : i < 32) : splice (outC s i) i [SV.int .u8 (IntKind.u8.wrap ((s.l.getD (i / 4) 0).fdiv (2 ^ (min (24 - 8 * (i % 4)) IntKind.u32.bits))))] = outC s (i + 1) := by
  rw [wrapB_sv]
  unfold outC
  rw [show (32 - i) = (32 - (i + 1)) + 1 by omega, List.replicate_succ]
  have := splice_app (a := bys ((List.range i).map (outB s))) (b := [.int .u8 0]) (c := List.replicate (32 - (i + 1)) (.int .u8 0)) (k := i) (d := [SV.byte (outB s i)]) (by simp [len_bytes]) rfl
  simp only [List.cons_append, List.nil_append] at this
  unfold outB at this ⊢
  rw [this, List.range_succ, List.map_append, ← bytes_app, List.append_assoc]
  rfl
theorem outC_flat {s : V8} {i : Nat} : SV.flatL (outC s i) = true := by
  unfold outC
  refine flatL_app (flat_bytes _) ?_
  generalize 32 - i = k
  induction k with
  | zero => rfl
  | succ k ih => rw [List.replicate_succ]; simp only [SV.flatL, SV.flat, Bool.true_and]; exact ih
theorem outC_ren (η : Nat → Nat × Nat) (s : V8) (i : Nat) : SV.renL η (outC s i) = outC s i := SV.flatL_ren η _ outC_flat
set_option maxHeartbeats 4000000 in
theorem f54 (h : HS) (hb : h.b.length = 64) (hn : h.n < 2 ^ 58) : Fun Tryd.prog tH 54 [.agg h.l] [] 0 (.agg (bys (outS (h.add (padS h.n)).s))) [] 0 := by
  refine fun_pure none (callX tabAdd) (callX_ok tabAdd_ok) chk54 (show 1 ≤ 58 by decide) (fun η => by simp only [SV.ren, ren_bytes]) ?_
  unfold sf54 om oq ov
  have hl := HS.l_len hb
  have ht := HS.l_take hb
  have hg := HS.l_n hb
  have rH : ∀ η (h : HS), SV.renL η h.l = h.l := HS.l_ren
  have e0 : [SV.int .u8 128] = bys (padA [] 0) := rfl
  simp (config := { maxSteps := 1000000 }) only [tabAdd, hg, reduceCtorEq, Nat.reduceEqDiff, Nat.reduceAdd, eq_self, frOf, ↓reduceIte, ↓binI, ↓fillE, Opd.ev, Sx.get, put, putO, del, dels, rd, splice, SV.cells?, SV.one, BB, ↓PB]
  rw [e0]
  rw [den_loop]
  have hz : ∀ η, SV.renL η z32 = z32 := fun η => outC_ren η h.s 0
  have hzl : z32.length = 32 := rfl
  have es : ∀ j, bys (padA [] j) ++ [SV.int .u8 0] = bys (padA [] (j + 1)) := fun j => by rw [← padA_step, ← bytes_app]; rfl
  have wn : IntKind.i64.wrap (h.n : Int) = (h.n : Int) := wrap64_eq (by omega) (by omega)
  generalize hN : IntKind.u64.wrap (8 * (h.n : Int)) = N
  have hpz := padZ_le h.n
  refine den_inv (callX_ok tabAdd_ok) (σ := Nat) (fun j => [(4, .slc 2 0 1 (1 + j) none), (3, .int .u64 N), (2, .ptr 1 0), (1, .ptr 0 0)]) (fun j => [(2, ⟨.own 5, bys (padA [] j)⟩), (1, ⟨.own 89, z32⟩), (0, ⟨.own 86, h.l⟩)]) (fun _ => 3)
    (fun j => j ≤ padZ h.n) (fun j => padZ h.n - j) 0 ?_ (Nat.zero_le _) ?_
  · exact ⟨[(0, 0), (1, 0), (2, 0)], by simp only [rH, hz, EntM, compat, apartM, keysBelow, eta, idHs, rd, Nat.reduceAdd, Nat.reduceSub, Nat.reduceLT, Nat.reduceLeDiff, ↓reduceIte, Kind.isOwn, exists_eq_left', ne_eq, implies_true, false_imp_iff, forall_const, reduceCtorEq, forall_eq_or_imp, forall_eq, BB] <;> rfl, by simp [frEnt, geto, eta, SV.ren, Nat.reduceAdd, Nat.reduceEqDiff, Nat.reduceLT, Nat.reduceLeDiff, ↓reduceIte, BB]⟩
  · intro j hj
    have wj : IntKind.i64.wrap ((h.n : Int) + ((1 + j : Nat) : Int)) = ((h.n + (1 + j) : Nat) : Int) := by rw [wrap64_eq (by omega) (by omega)]; omega
    have r1 : Int.tmod ((h.n + (1 + j) : Nat) : Int) 64 = (((h.n + (1 + j)) % 64 : Nat) : Int) := (Int.ofNat_tmod _ 64).symm
    have tk : List.take (1 + j) (bys (padA [] j)) = bys (padA [] j) := List.take_of_length_le (by rw [len_bytes, padA_len]; simp)
    have ln : (padA [] j).length = 1 + j := by rw [padA_len]; simp
    by_cases hj2 : j < padZ h.n
    · have c : ((((h.n + (1 + j)) % 64 : Nat) : Int) != 56) = true := by
        have := padZ_not hj2
        simp; omega
      simp (config := { maxSteps := 1000000 }) only [hg, wn, wj, r1, c, tk, ln, es, reduceCtorEq, Nat.reduceEqDiff, Nat.reduceAdd, Int.reduceNe, eq_self, ↓reduceIte, ↓binI, ↓fillE, Opd.ev, Sx.get, put, putO, del, dels, rd, rm, splice, SV.cells?, SV.one, BB, ↓PB]
      exact ⟨by omega, by omega, j + 1, ⟨[(0, 0), (1, 0), (4, 0)], by simp only [rH, hz, EntM, compat, apartM, keysBelow, eta, idHs, rd, Nat.reduceAdd, Nat.reduceSub, Nat.reduceEqDiff, Nat.reduceLT, Nat.reduceLeDiff, ↓reduceIte, Kind.isOwn, exists_eq_left', ne_eq, implies_true, false_imp_iff, forall_const, reduceCtorEq, forall_eq_or_imp, forall_eq, BB], by simp [Nat.add_assoc, frEnt, geto, eta, SV.ren, Nat.reduceAdd, Nat.reduceEqDiff, Nat.reduceLT, Nat.reduceLeDiff, ↓reduceIte, BB]⟩, by omega, by omega⟩
    · obtain rfl : j = padZ h.n := by omega
      have c : ((((h.n + (1 + padZ h.n)) % 64 : Nat) : Int) != 56) = false := by
        have := padZ_ok h.n
        simp; omega
      simp (config := { maxSteps := 1000000 }) only [hg, wn, wj, r1, c, reduceCtorEq, Nat.reduceEqDiff, Int.reduceNe, eq_self, ↓reduceIte, ↓binI, Opd.ev, Sx.get, put, putO, del, dels, rd, BB, ↓PB]
      rw [den_loop, ← padQ_z]
      refine den_inv (callX_ok tabAdd_ok) (σ := Nat) (fun i => [(23, .int .i64 (i : Int)), (4, .slc 2 0 1 (1 + padZ h.n + i) none), (3, .int .u64 N), (2, .ptr 1 0), (1, .ptr 0 0)]) (fun i => [(2, ⟨.own 5, bys (padQ h.n i)⟩), (1, ⟨.own 89, z32⟩), (0, ⟨.own 86, h.l⟩)]) (fun _ => 3)
        (fun i => i ≤ 8) (fun i => 8 - i) 0 ?_ (Nat.zero_le _) ?_
      · exact ⟨[(0, 0), (1, 0), (2, 0)], by simp only [rH, hz, EntM, compat, apartM, keysBelow, eta, idHs, rd, Nat.reduceAdd, Nat.reduceSub, Nat.reduceLT, Nat.reduceLeDiff, ↓reduceIte, Kind.isOwn, exists_eq_left', ne_eq, implies_true, false_imp_iff, forall_const, reduceCtorEq, forall_eq_or_imp, forall_eq, BB], by simp [frEnt, geto, eta, SV.ren, Nat.reduceAdd, Nat.reduceEqDiff, Nat.reduceLT, Nat.reduceLeDiff, ↓reduceIte, BB]⟩
      · intro i hi
        have tk2 : List.take (1 + padZ h.n + i) (bys (padQ h.n i)) = bys (padQ h.n i) := List.take_of_length_le (by rw [len_bytes, padQ_len]; omega)
        have ln2 : (padQ h.n i).length = 1 + padZ h.n + i := padQ_len h.n i
        by_cases h8 : i < 8
        · have c1 : (i : Int) < 8 := by omega
          have v1 : IntKind.i64.wrap (8 * (i : Int)) = ((8 * i : Nat) : Int) := by rw [wrap64_eq (by omega) (by omega)]; omega
          have v2 : IntKind.i64.wrap (56 - ((8 * i : Nat) : Int)) = ((56 - 8 * i : Nat) : Int) := by rw [wrap64_eq (by omega) (by omega)]; omega
          have v3 : (0 : Int) ≤ ((56 - 8 * i : Nat) : Int) := by omega
          have v4 : IntKind.i64.wrap ((i : Int) + 1) = ((i + 1 : Nat) : Int) := by rw [wrap64_eq (by omega) (by omega)]; omega
          have eb : bys (padQ h.n i) ++ [SV.int .u8 (IntKind.u8.wrap (N.fdiv (2 ^ (min (56 - 8 * i) IntKind.u64.bits))))] = bys (padQ h.n (i + 1)) := by
            rw [← padQ_step, ← bytes_app1, wrapB_sv]
            unfold lenB
            rw [hN]
          simp (config := { maxSteps := 1000000 }) only [c1, v1, v2, v3, v4, tk2, ln2, eb, reduceCtorEq, Nat.reduceEqDiff, Nat.reduceAdd, eq_self, ↓reduceIte, ↓binI, ↓fillE, Opd.ev, Sx.get, put, putO, del, dels, rd, rm, splice, SV.cells?, SV.one, BB, ↓PB]
          exact ⟨by omega, by omega, i + 1, ⟨[(0, 0), (1, 0), (4, 0)], by simp only [rH, hz, EntM, compat, apartM, keysBelow, eta, idHs, rd, Nat.reduceAdd, Nat.reduceSub, Nat.reduceEqDiff, Nat.reduceLT, Nat.reduceLeDiff, ↓reduceIte, Kind.isOwn, exists_eq_left', ne_eq, implies_true, false_imp_iff, forall_const, reduceCtorEq, forall_eq_or_imp, forall_eq, BB], by simp [Nat.add_assoc, frEnt, geto, eta, SV.ren, Nat.reduceAdd, Nat.reduceEqDiff, Nat.reduceLT, Nat.reduceLeDiff, ↓reduceIte, BB]⟩, by omega, by omega⟩
        · obtain rfl : i = 8 := by omega
          have hadd := gAdd_eq (h := h) (t := padS h.n) hb (by rw [padS_len]; omega)
          rw [padQ_all]
          have hpl : (padS h.n).length = 1 + padZ h.n + 8 := by rw [padS_len]; omega
          have tk3 : List.take (1 + padZ h.n + 8) (bys (padS h.n)) = bys (padS h.n) := List.take_of_length_le (by rw [len_bytes]; omega)
          have hb2 : (h.add (padS h.n)).b.length = 64 := by rw [HS.add_len, hb]
          have ht2 := HS.l_take hb2
          have hl2 := HS.l_len hb2
          have hfl := HS.l_flat h
          have hfl2 := HS.l_flat (h.add (padS h.n))
          have hsp : splice h.l 0 (h.add (padS h.n)).l = (h.add (padS h.n)).l := by
            have := splice_app (a := []) (b := h.l) (c := []) (k := 0) (d := (h.add (padS h.n)).l) rfl (by rw [hl, hl2])
            simpa using this
          have mb := map_byteOf (padS h.n)
          have au := all_isU8 (padS h.n)
          simp (config := { maxSteps := 1000000 }) only [hl, ht, tk3, hpl, ↓hadd, hfl, hfl2, hl2, hsp, mb, au, SV.flatL, SV.flat, lookF, reduceCtorEq, Nat.reduceEqDiff, Nat.reduceAdd, Int.reduceLT, eq_self, ↓reduceIte, ↓binI, Opd.ev, Sx.get, put, putO, del, dels, rd, upd, SV.cells?, BB, ↓PB]
          rw [den_loop]
          generalize hge : h.add (padS h.n) = g at *
          refine den_inv (callX_ok tabAdd_ok) (σ := Nat) (fun i => [(40, .int .i64 (i : Int)), (6, .ptr 2 0), (2, .ptr 1 0), (1, .ptr 0 0)]) (fun i => [(2, ⟨.own 89, outC g.s i⟩), (1, ⟨.own 89, z32⟩), (0, ⟨.own 86, g.l⟩)]) (fun _ => 3)
            (fun i => i ≤ 32) (fun i => 32 - i) 0 ?_ (Nat.zero_le _) ?_
          · exact ⟨[(0, 0), (1, 0), (3, 0)], by simp only [rH, hz, outC_z, EntM, compat, apartM, keysBelow, eta, idHs, rd, Nat.reduceAdd, Nat.reduceSub, Nat.reduceEqDiff, Nat.reduceLT, Nat.reduceLeDiff, ↓reduceIte, Kind.isOwn, exists_eq_left', ne_eq, implies_true, false_imp_iff, forall_const, reduceCtorEq, forall_eq_or_imp, forall_eq, BB] <;> rfl, by simp [frEnt, geto, eta, SV.ren, Nat.reduceAdd, Nat.reduceEqDiff, Nat.reduceLT, Nat.reduceLeDiff, ↓reduceIte, BB]⟩
          · intro i hi
            have rC : ∀ η i, SV.renL η (outC g.s i) = outC g.s i := fun η i => outC_ren η g.s i
            have lC := outC_len (s := g.s) hi
            by_cases h32 : i < 32
            · have c1 : (i : Int) < 32 := by omega
              have c2 : (0 : Int) ≤ (i : Int) := by omega
              have q1 : Int.tdiv (i : Int) 4 = ((i / 4 : Nat) : Int) := (Int.ofNat_tdiv i 4).symm
              have q2 : Int.tmod (i : Int) 4 = ((i % 4 : Nat) : Int) := (Int.ofNat_tmod i 4).symm
              have q3 : IntKind.i64.wrap ((i / 4 : Nat) : Int) = ((i / 4 : Nat) : Int) := wrap64_eq (by omega) (by omega)
              have q4 : (0 : Int) ≤ ((i / 4 : Nat) : Int) ∧ ((i / 4 : Nat) : Int) < 8 := by omega
              have hs := HS.l_s (h := g) (q := i / 4) (by omega)
              have v1 : IntKind.i64.wrap (8 * ((i % 4 : Nat) : Int)) = ((8 * (i % 4) : Nat) : Int) := by rw [wrap64_eq (by omega) (by omega)]; omega
              have v2 : IntKind.i64.wrap (24 - ((8 * (i % 4) : Nat) : Int)) = ((24 - 8 * (i % 4) : Nat) : Int) := by rw [wrap64_eq (by omega) (by omega)]; omega
              have v3 : (0 : Int) ≤ ((24 - 8 * (i % 4) : Nat) : Int) := by omega
              have v4 : IntKind.i64.wrap ((i : Int) + 1) = ((i + 1 : Nat) : Int) := by rw [wrap64_eq (by omega) (by omega)]; omega
              have op := outC_put (s := g.s) h32
              simp (config := { maxSteps := 1000000 }) only [c1, c2, q1, q2, q3, q4.1, q4.2, hs, v1, v2, v3, v4, lC, op, reduceCtorEq, Nat.reduceEqDiff, Nat.reduceLeDiff, Int.reduceNe, eq_self, ↓reduceIte, ↓binI, Opd.ev, Sx.get, put, putO, del, dels, rd, upd, SV.cells?, SV.one, BB, ↓PB]
              exact ⟨by omega, i + 1, ⟨[(0, 0), (1, 0), (2, 0)], by simp only [rH, hz, rC, EntM, compat, apartM, keysBelow, eta, idHs, rd, Nat.reduceAdd, Nat.reduceSub, Nat.reduceLT, Nat.reduceLeDiff, ↓reduceIte, Kind.isOwn, exists_eq_left', ne_eq, implies_true, false_imp_iff, forall_const, reduceCtorEq, forall_eq_or_imp, forall_eq, BB], by simp [frEnt, geto, eta, SV.ren, Nat.reduceAdd, Nat.reduceEqDiff, Nat.reduceLT, Nat.reduceLeDiff, ↓reduceIte, BB]⟩, by omega, by omega⟩
            · obtain rfl : i = 32 := by omega
              simp (config := { maxSteps := 1000000 }) only [lC, reduceCtorEq, Nat.reduceEqDiff, Int.reduceLT, eq_self, ↓reduceIte, ↓binI, ↓evRes, Opd.ev, Sx.get, put, putO, del, dels, rd, upd, SV.cells?, retOf, BB, ↓PB]
              have tC : List.take 32 (outC g.s 32) = outC g.s 32 := List.take_of_length_le (by omega)
              have sC : splice z32 0 (outC g.s 32) = outC g.s 32 := by
                have := splice_app (a := []) (b := z32) (c := []) (k := 0) (d := outC g.s 32) rfl (by rw [lC, hzl])
                simpa using this
              rw [tC, sC, tC]
              exact ⟨lC, by omega, by omega, outC_all g.s⟩
def gSum : List SV → Option SV
  | [.agg l] => match unHS l with
    | some h => if h.b.length = 64 ∧ h.n < 2 ^ 58 then some (.agg (bys (outS (h.add (padS h.n)).s))) else none
    | none => none
  | _ => none
theorem gSum_eq {h : HS} (hb : h.b.length = 64) (hn : h.n < 2 ^ 58) : gSum [.agg h.l] = some (.agg (bys (outS (h.add (padS h.n)).s))) := by
  simp only [gSum]
  rw [unHS_l hb]
  simp only
  rw [if_pos ⟨hb, hn⟩]
def gBeg : List SV → Option SV
  | [] => some (.agg hs0.l)
  | _ => none
def tabStr : Tab := ⟨[(52, gBeg), (53, gAdd), (54, gSum)], []⟩
theorem tabStr_ok : TabX Tryd.prog tH tabStr := by
  refine ⟨fun x h args r hr => ?_, fun x h => by simp [tabStr] at h⟩
  simp only [tabStr, List.mem_cons, List.not_mem_nil, or_false] at h
  rcases h with rfl | rfl | rfl
  · simp only at hr
    unfold gBeg at hr
    split at hr
    · cases hr
      exact ⟨f52, fun η => by simp only [SV.renL], fun η => by simp only [SV.renL, SV.ren, HS.l_ren]⟩
    · cases hr
  · exact tabAdd_ok.p (53, gAdd) (by simp [tabAdd]) args r hr
  · simp only at hr
    unfold gSum at hr
    split at hr
    · split at hr
      · rename_i h hh
        split at hr
        · rename_i hc
          cases hr
          rw [unHS_some hh]
          exact ⟨f54 h hc.1 hc.2, fun η => by simp only [SV.renL, SV.ren, HS.l_ren], fun η => by simp only [SV.renL, SV.ren, ren_bytes]⟩
        · cases hr
      · cases hr
    · cases hr
end Go.Proofs.YtkfbkooobfepeaaDoor

/- Package wire: the encoding of an integer. -/
namespace Go.Proofs.YtkfbkooobfepeaaDoor
open Go Go.Sx Sf
set_option maxRecDepth 100000
set_option linter.unusedVariables false
variable {tS : List (Nat × List SV)}
def nth8 (m : Int) (i : Nat) : Int := m.fdiv (2 ^ (min (8 * i) IntKind.u64.bits))
def topK (m : Int) : Nat → Nat
  | 0 => 0
  | k + 1 => if nth8 m k > 0 then k + 1 else topK m k
theorem topK_le (m : Int) : ∀ k, topK m k ≤ k
  | 0 => Nat.le_refl _
  | k + 1 => by unfold topK; split; exact Nat.le_refl _; exact Nat.le_succ_of_le (topK_le m k)
def encTail (m f : Int) : Nat → List UInt8
  | 0 => []
  | i + 1 => flipB (IntKind.u8.wrap (nth8 m i)) f :: encTail m f i
theorem encTail_len (m f : Int) : ∀ i, (encTail m f i).length = i
  | 0 => rfl
  | i + 1 => by simp [encTail, encTail_len m f i]
def encHd (f : Int) (k : Nat) : UInt8 := flipB (IntKind.u8.wrap (128 + (k : Int))) f
def encM (n : Int) : Int := if n < 0 then bitop .xor .u64 (if IntKind.u64.signed then -1 else IntKind.u64.max) (IntKind.u64.wrap n) else IntKind.u64.wrap n
def encF (n : Int) : Int := if n < 0 then 255 else 0
def encI (n : Int) : List UInt8 := encHd (encF n) (topK (encM n) 8) :: encTail (encM n) (encF n) (topK (encM n) 8)
theorem encI_len (n : Int) : (encI n).length ≤ 9 := by
  simp only [encI, List.length_cons, encTail_len]
  have := topK_le (encM n) 8
  omega

def rB (l : List UInt8) (i : Nat) : SV := .slc i 0 1 l.length none
set_option maxHeartbeats 4000000 in
theorem f34 (n : Int) : Fun Tryd.prog tS 34 [.int .i64 n] [] 0 (.slc 0 0 1 (encI n).length none) [(0, ⟨.own 5, bys (encI n)⟩)] 1 := by
  refine fun_any none cF cF_ok chk34 (show 1 ≤ 47 by decide) (Nat.zero_le _) ?_
  unfold sf34 om oq
  have hlen := encI_len n
  have hren := fun η b => ren_bytes η b
  have key : (bitop .xor .u64 (if IntKind.u64.signed then -1 else IntKind.u64.max) (IntKind.u64.wrap n) = encM n ∧ (255 : Int) = encF n ∧ n < 0) ∨ (IntKind.u64.wrap n = encM n ∧ (0 : Int) = encF n ∧ ¬ n < 0) := by
    by_cases hn : n < 0
    · left; simp only [encM, encF, hn, if_true]; trivial
    · right; simp only [encM, encF, hn, if_false]; trivial
  rcases key with ⟨k1, k2, hn⟩ | ⟨k1, k2, hn⟩
  all_goals
    simp (config := { maxSteps := 1000000 }) only [hn, k1, reduceCtorEq, Nat.reduceEqDiff, Int.reduceNeg, eq_self, frOf, ↓reduceIte, ↓binI, Opd.ev, Sx.get, put, putO, del, dels, BB, ↓PB]
    generalize hm : encM n = m at *
    generalize hf : encF n = f at *
    rw [den_loop]
    refine den_inv cF_ok (σ := Nat) (fun k => [(5, .int .i64 (k : Int)), (4, .int .u8 f), (3, .int .u64 m)]) (fun _ => []) (fun _ => 0)
      (fun k => k ≤ 8 ∧ topK m k = topK m 8) (fun k => k) 8 ⟨[], by simp [EntM, compat, apartM, keysBelow, idHs, List.length_nil, List.take_nil, and_self], by simp [← k2, frEnt, geto, SV.ren, Nat.reduceEqDiff, ↓reduceIte, and_self, Nat.succ_ne_self]⟩ ⟨Nat.le_refl _, rfl⟩ ?_
    rintro k ⟨hk8, hk⟩
    have step : (k = 0 ∨ (0 < k ∧ nth8 m (k - 1) > 0)) ∨ (0 < k ∧ ¬ nth8 m (k - 1) > 0) := by
      by_cases h0 : k = 0
      · exact .inl (.inl h0)
      · by_cases h1 : nth8 m (k - 1) > 0
        · exact .inl (.inr ⟨by omega, h1⟩)
        · exact .inr ⟨by omega, h1⟩
    have hI : encHd f (topK m 8) :: encTail m f (topK m 8) = encI n := by unfold encI; rw [hm, hf]
    have w3 : 0 < k → IntKind.i64.wrap (8 * ((k : Int) - 1)) = ((8 * (k - 1) : Nat) : Int) := fun h => by rw [wrap64_eq (by omega) (by omega)]; omega
    have w1 : IntKind.i64.wrap (128 + (k : Int)) = 128 + (k : Int) := wrap64_eq (by omega) (by omega)
    have w2 : IntKind.i64.wrap ((k : Int) - 1) = (k : Int) - 1 := wrap64_eq (by omega) (by omega)
    rcases step with hx | ⟨h0, h1⟩
    · have hkK : topK m 8 = k := by
        rw [← hk]
        rcases hx with rfl | ⟨h0, h1⟩
        · rfl
        · obtain ⟨j, rfl⟩ : ∃ j, k = j + 1 := ⟨k - 1, by omega⟩
          simp only [Nat.add_sub_cancel] at h1
          unfold topK
          rw [if_pos h1]
      rw [hkK] at hI
      have hb : SV.int .u8 (bitop .xor .u8 (IntKind.u8.wrap (128 + (k : Int))) f) = SV.byte (encHd f k) := flipB_sv _ _
      rcases hx with h0 | ⟨h0, h1⟩
      case' inl =>
        have g0 : ¬ (k : Int) > 0 := by omega
        simp (config := { maxSteps := 1000000 }) only [w1, w2, g0, Nat.reduceEqDiff, eq_self, ↓reduceIte, ↓binI, ↓fillE, Opd.ev, Sx.get, put, putO, del, dels, splice, SV.cells?, SV.one, BB, ↓PB]
      case' inr =>
        have g0 : (k : Int) > 0 := by omega
        have g1 : (0 : Int) ≤ ((8 * (k - 1) : Nat) : Int) := by omega
        have g2 : m.fdiv (2 ^ (min (8 * (k - 1)) IntKind.u64.bits)) > 0 := h1
        simp (config := { maxSteps := 1000000 }) only [w1, w2, w3 h0, g0, g1, g2, reduceCtorEq, Nat.reduceEqDiff, eq_self, ↓reduceIte, ↓binI, ↓fillE, Opd.ev, Sx.get, put, putO, del, dels, splice, SV.cells?, SV.one, BB, ↓PB]
      all_goals
        rw [den_loop]
        refine den_inv cF_ok (σ := Nat × List UInt8) (fun s => [(7, .int .i64 ((s.1 : Int) - 1)), (6, .slc 0 0 1 s.2.length none), (4, .int .u8 f), (3, .int .u64 m)])
          (fun s => [(0, ⟨.own 5, bys s.2⟩)]) (fun _ => 1) (fun s => s.1 ≤ k ∧ s.2 ++ encTail m f s.1 = encI n) (fun s => s.1) (k, [encHd f k]) ⟨[(0, 0)], by simp [hb, EntM, compat, apartM, keysBelow, eta, idHs, rd, ↓reduceIte, Kind.isOwn, exists_eq_left', ne_eq, implies_true, forall_const, BB], by simp [frEnt, geto, eta, SV.ren, Nat.reduceEqDiff, ↓reduceIte, BB]⟩ ⟨Nat.le_refl _, hI⟩ ?_
        rintro ⟨i, pre⟩ ⟨hi, hpre⟩
        simp only at hi hpre
        have v2 : IntKind.i64.wrap ((i : Int) - 1 - 1) = (i : Int) - 1 - 1 := wrap64_eq (by omega) (by omega)
        have hl := congrArg List.length hpre
        simp only [List.length_append, encTail_len] at hl
        by_cases hi0 : i = 0
        · have q0 : ¬ (i : Int) - 1 ≥ 0 := by omega
          subst hi0
          simp only [encTail, List.append_nil] at hpre
          subst hpre
          simp (config := { maxSteps := 1000000 }) only [Int.reduceGE, Nat.reduceEqDiff, Int.reduceSub, Int.reduceNeg, eq_self, ↓reduceIte, ↓binI, ↓evRes, Opd.ev, Sx.get, put, putO, del, dels, retOf, BB, ↓PB]
          exact ⟨[(0, 0)], by simp [EntM, compat, apartM, keysBelow, eta, idHs, rd, ↓reduceIte, Kind.isOwn, exists_eq_left', ne_eq, implies_true, forall_const, BB], by simp [eta, SV.ren, BB]⟩
        · have q0 : (i : Int) - 1 ≥ 0 := by omega
          have v3 : IntKind.i64.wrap (8 * ((i : Int) - 1)) = ((8 * (i - 1) : Nat) : Int) := by rw [wrap64_eq (by omega) (by omega)]; omega
          have q1 : (0 : Int) ≤ ((8 * (i - 1) : Nat) : Int) := by omega
          have hb2 : SV.int .u8 (bitop .xor .u8 (IntKind.u8.wrap (m.fdiv (2 ^ (min (8 * (i - 1)) IntKind.u64.bits)))) f) = SV.byte (flipB (IntKind.u8.wrap (nth8 m (i - 1))) f) := flipB_sv _ _
          simp (config := { maxSteps := 1000000 }) only [v2, v3, q0, q1, reduceCtorEq, Nat.reduceEqDiff, Nat.reduceAdd, eq_self, ↓reduceIte, ↓binI, ↓fillE, Opd.ev, Sx.get, put, putO, del, dels, rd, rm, splice, SV.cells?, SV.one, BB, ↓PB]
          rw [hb2, bytes_app1]
          have hc : encTail m f i = flipB (IntKind.u8.wrap (nth8 m (i - 1))) f :: encTail m f (i - 1) := by
            obtain ⟨j, rfl⟩ : ∃ j, i = j + 1 := ⟨i - 1, by omega⟩
            rfl
          rw [hc, ← List.singleton_append, ← List.append_assoc] at hpre
          have hci : ((i - 1 : Nat) : Int) = (i : Int) - 1 := by omega
          exact ⟨by omega, by omega, (i - 1, _), ⟨[(2, 0)], by simp [EntM, compat, apartM, keysBelow, eta, idHs, rd, ↓reduceIte, Kind.isOwn, exists_eq_left', ne_eq, implies_true, forall_const, BB], by simp [hci, frEnt, geto, eta, SV.ren, Nat.reduceEqDiff, ↓reduceIte, BB]⟩, ⟨by omega, hpre⟩, by simp only; omega⟩
    · have g0 : (k : Int) > 0 := by omega
      have w2 : IntKind.i64.wrap ((k : Int) - 1) = ((k - 1 : Nat) : Int) := by rw [w2]; omega
      have w3 : IntKind.i64.wrap (8 * ((k - 1 : Nat) : Int)) = ((8 * (k - 1) : Nat) : Int) := by rw [wrap64_eq (by omega) (by omega)]; omega
      have g1 : (0 : Int) ≤ ((8 * (k - 1) : Nat) : Int) := by omega
      have g2 : ¬ m.fdiv (2 ^ (min (8 * (k - 1)) IntKind.u64.bits)) > 0 := h1
      simp (config := { maxSteps := 1000000 }) only [w2, w3, g0, g1, g2, Nat.reduceEqDiff, eq_self, ↓reduceIte, ↓binI, Opd.ev, Sx.get, put, putO, del, dels, BB, ↓PB]
      refine ⟨k - 1, ⟨[], by simp [EntM, compat, apartM, keysBelow, idHs, List.length_nil, List.take_nil, and_self], by simp [frEnt, geto, SV.ren, Nat.reduceEqDiff, ↓reduceIte, and_self, Nat.succ_ne_self]⟩, ⟨by omega, ?_⟩, by omega⟩
      rw [← hk]
      obtain ⟨j, rfl⟩ : ∃ j, k = j + 1 := ⟨k - 1, by omega⟩
      simp only [Nat.add_sub_cancel] at h1 ⊢
      rw [topK, if_neg h1]
def gInt : GS
  | [.int .i64 n], [] => some (.slc 0 0 1 (encI n).length none, [(0, ⟨.own 5, bys (encI n)⟩)], 1)
  | _, _ => none
theorem gInt_ok : FunS Tryd.prog tS 34 gInt := by
  intro a0 m0 r m1 n1 h
  unfold gInt at h
  split at h
  · cases h; exact ⟨f34 _, by simp [freshB]⟩
  · cases h
end Go.Proofs.YtkfbkooobfepeaaDoor

/- Package wire: the encodings of lists of integers and of texts; likewise of the reference. -/
namespace Go.Proofs.YtkfbkooobfepeaaDoor
open Go Go.Sx Sf
set_option maxRecDepth 100000
set_option linter.unusedVariables false
variable {tS : List (Nat × List SV)}
def tabA : List (FuncId × GS) := [(34, gInt)]
theorem tabA_ok : ∀ x ∈ tabA, FunS Tryd.prog tS x.1 x.2 := by
  intro x hx
  simp only [tabA, List.mem_cons, List.not_mem_nil, or_false] at hx
  rcases hx with rfl
  exact gInt_ok
def encS (s : List UInt8) : List UInt8 := encI s.length ++ s
theorem f33 (s : List UInt8) (hs : s.length ≤ 2 ^ 39) : Fun Tryd.prog tS 33 [.str s] [] 0 (.slc 0 0 1 (encS s).length none) [(0, ⟨.own 5, bys (encS s)⟩)] 1 := by
  refine fun_any none (callS tabA cF) (callS_ok tabA_ok cF_ok) chk33 (show 1 ≤ 8 by decide) (by decide) ?_
  unfold sf33 om oq
  have hI := encI_len s.length
  simp (config := { maxSteps := 1000000 }) only [tabA, gInt, lookF, reduceCtorEq, Nat.reduceEqDiff, Nat.reduceAdd, eq_self, frOf, ↓reduceIte, ↓evRes, Opd.ev, Sx.get, put, putO, del, dels, rd, rm, retOf, canLW, canV, belowL, apH, eta, SV.ren, newOwn, targets, rms, Kind.isOwn, BB, ↓PB]
  exact ⟨by omega, by omega, [(1, 0)], by simp [encS, bytes_app, EntM, compat, apartM, keysBelow, eta, idHs, rd, ↓reduceIte, Kind.isOwn, exists_eq_left', ne_eq, implies_true, forall_const, BB], by simp [encS, BB]⟩
def gBytes : GS
  | [.str s], [] => if s.length ≤ 2 ^ 39 then some (.slc 0 0 1 (encS s).length none, [(0, ⟨.own 5, bys (encS s)⟩)], 1) else none
  | _, _ => none
theorem gBytes_ok : FunS Tryd.prog tS 33 gBytes := by
  intro a0 m0 r m1 n1 h
  unfold gBytes at h
  split at h
  · split at h
    · cases h
      exact ⟨f33 _ (by assumption), by simp [freshB]⟩
    · cases h
  · cases h
end Go.Proofs.YtkfbkooobfepeaaDoor

/- The digest of parts: hash.Of. -/
namespace Go.Proofs.YtkfbkooobfepeaaDoor
open Go Go.Sx Sf
set_option maxRecDepth 100000
set_option linter.unusedVariables false
variable {tS : List (Nat × List SV)}
def strs (ps : List (List UInt8)) : List SV := ps.map SV.str
theorem flat_strs : ∀ ps : List (List UInt8), SV.flatL (strs ps) = true
  | [] => rfl
  | p :: ps => by simp only [strs, List.map_cons, SV.flatL, SV.flat, Bool.true_and]; exact flat_strs ps
theorem ren_strs (η : Nat → Nat × Nat) (ps : List (List UInt8)) : SV.renL η (strs ps) = strs ps := SV.flatL_ren η _ (flat_strs ps)
theorem len_strs (ps : List (List UInt8)) : (strs ps).length = ps.length := by simp [strs]
theorem get_strs {ps : List (List UInt8)} {j : Nat} {p : List UInt8} (h : ps[j]? = some p) : (strs ps)[j]? = some (.str p) := by simp [strs, h]
theorem gBytes_eq {s : List UInt8} (h : s.length ≤ 2 ^ 39) : gBytes [.str s] [] = some (.slc 0 0 1 (encS s).length none, [(0, ⟨.own 5, bys (encS s)⟩)], 1) := by
  simp [gBytes, h]
def ofM (tag : Int) (ps : List (List UInt8)) : List UInt8 := wrapB tag :: (ps.map encS).flatten
def ofS (tag : Int) (ps : List (List UInt8)) : List UInt8 := (sumS (ofM tag ps)).take 16
theorem ofM_step {tag : Int} {ps : List (List UInt8)} {j : Nat} {p : List UInt8} (h : ps[j]? = some p) : ofM tag (ps.take j) ++ encS p = ofM tag (ps.take (j + 1)) := by
  unfold ofM
  rw [List.take_add_one, h]
  simp
theorem flat_le {ps : List (List UInt8)} {j : Nat} : (((ps.take j).map encS).flatten).length ≤ ((ps.map encS).flatten).length := by
  have := congrArg (fun l => ((l.map encS).flatten).length) (List.take_append_drop j ps)
  simp only [List.map_append, List.flatten_append, List.length_append] at this
  omega
theorem sumS_len (m : List UInt8) : (sumS m).length = 32 := outS_len _
theorem ofS_len (tag : Int) (ps : List (List UInt8)) : (ofS tag ps).length = 16 := by simp [ofS, sumS_len]
theorem splice_all {a b : List SV} (h : b.length = a.length) : splice a 0 b = b := by
  have := splice_app (a := []) (b := a) (c := []) (k := 0) (d := b) rfl h
  simpa using this
def z16 : List SV := List.replicate 16 (.int .u8 0)
def cOf : CallT := callS [(33, gBytes)] (callX tabStr)
theorem tabBy_ok : ∀ x ∈ [((33 : FuncId), gBytes)], FunS Tryd.prog tS x.1 x.2 := by
  intro x hx
  simp only [List.mem_cons, List.not_mem_nil, or_false] at hx
  subst hx
  exact gBytes_ok
theorem cOf_ok : ∀ f a m n K, cOf f a m n K → callT Tryd.prog tH f a m n K := callS_ok tabBy_ok (callX_ok tabStr_ok)
set_option maxHeartbeats 4000000 in
theorem f39 (tag : Int) (ps : List (List UInt8)) (hp : ∀ p ∈ ps, p.length ≤ 2 ^ 39) (hT : (ofM tag ps).length < 2 ^ 57) (hk : ps.length < 2 ^ 60) (cap : Option Nat) (hcap : CapOk cap ps.length) :
    Fun Tryd.prog tH 39 [.int .i64 tag, .slc 0 0 1 ps.length cap] [(0, ⟨.view, strs ps⟩)] 1 (.agg (bys (ofS tag ps))) [] 1 := by
  refine fun_val none cOf cOf_ok chk39 (show 2 ≤ 32 by decide) (fun η => by simp only [SV.ren, ren_bytes]) ?_
  unfold sf39 oh om oq ov
  have rH : ∀ η (h : HS), SV.renL η h.l = h.l := HS.l_ren
  have hb0 : hs0.b.length = 64 := rfl
  have hfl := HS.l_flat
  have g0 : gBeg [] = some (.agg hs0.l) := rfl
  have l0 := HS.l_len hb0
  have tg : Sx.byteOf (SV.int .u8 (IntKind.u8.wrap tag)) = wrapB tag := rfl
  have ig : isU8 (SV.int .u8 (IntKind.u8.wrap tag)) = true := rfl
  have hlT : (ofM tag ps).length = 1 + ((ps.map encS).flatten).length := by simp [ofM]; omega
  have ga := gAdd_eq (h := hs0) (t := [wrapB tag]) hb0 (by show 0 + 1 < 2 ^ 60; decide)
  have ll : ∀ t, (hs0.add t).l.length = 73 := fun t => HS.l_len (hs0_len t)
  simp (config := { maxSteps := 1000000 }) only [cOf, tabStr, ↓g0, hfl, tg, ig, ↓ga, ll, SV.flatL, SV.flat, lookF, reduceCtorEq, Nat.reduceEqDiff, Nat.reduceAdd, Nat.reduceLeDiff, eq_self, frOf, ↓reduceIte, ↓fillE, evA, Opd.ev, Sx.get, put, putO, del, dels, frD, memD, pickD, kills, views, newer, rd, upd, splice, SV.cells?, SV.one, BB, ↓PB]
  have m0 : hs0.add [wrapB tag] = hs0.add (ofM tag (ps.take 0)) := rfl
  rw [m0, den_loop]
  have rS : ∀ η, SV.renL η (strs ps) = strs ps := fun η => ren_strs η ps
  have rz : ∀ η, SV.renL η z16 = z16 := fun η => SV.flatL_ren η z16 rfl
  refine den_inv cOf_ok (σ := Nat) (fun j => [(17, .int .i64 (j : Int)), (16, .int .i64 (ps.length : Int)), (15, .slc 0 0 1 ps.length cap), (5, .ptr 2 0), (4, .ptr 1 0)])
    (fun j => [(2, ⟨.own 86, (hs0.add (ofM tag (ps.take j))).l⟩), (1, ⟨.own 36, z16⟩), (0, ⟨.view, strs ps⟩)]) (fun _ => 3) (fun j => j ≤ ps.length) (fun j => ps.length - j) 0 ?_ (Nat.zero_le _) ?_
  · exact ⟨[(0, 0), (1, 0), (3, 0)], by simp only [rH, rS, rz, EntM, compat, apartM, keysBelow, eta, idHs, rd, Nat.reduceAdd, Nat.reduceSub, Nat.reduceEqDiff, Nat.reduceLT, Nat.reduceLeDiff, ↓reduceIte, Kind.isOwn, exists_eq_left', ne_eq, implies_true, false_imp_iff, forall_const, reduceCtorEq, forall_eq_or_imp, forall_eq, BB] <;> rfl, by simp [frEnt, geto, eta, SV.ren, Nat.reduceAdd, Nat.reduceEqDiff, Nat.reduceLT, Nat.reduceLeDiff, ↓reduceIte, BB]⟩
  · intro j hj
    have hln := len_strs ps
    by_cases hj2 : j < ps.length
    · obtain ⟨p, hpj⟩ : ∃ p, ps[j]? = some p := ⟨ps[j], by simp [hj2]⟩
      have hpm : p ∈ ps := List.mem_of_getElem? hpj
      have gp := get_strs hpj
      have c1 : (j : Int) < (ps.length : Int) := by omega
      have c2 : (0 : Int) ≤ (j : Int) := by omega
      have v4 : IntKind.i64.wrap ((j : Int) + 1) = ((j + 1 : Nat) : Int) := by rw [wrap64_eq (by omega) (by omega)]; omega
      have gb := gBytes_eq (hp p hpm)
      have hst := ofM_step (tag := tag) hpj
      have hle : (ofM tag (ps.take (j + 1))).length ≤ (ofM tag ps).length := by
        have := flat_le (ps := ps) (j := j + 1)
        simp only [ofM, List.length_cons]
        omega
      have hle2 : (ofM tag (ps.take j)).length + (encS p).length = (ofM tag (ps.take (j + 1))).length := by rw [← hst]; simp
      have ga2 := gAdd_eq (h := hs0.add (ofM tag (ps.take j))) (t := encS p) (hs0_len _) (by rw [hs0_n]; omega)
      have l73 := ll (ofM tag (ps.take j))
      have l73' := ll (ofM tag (ps.take (j + 1)))
      have t73 : ∀ t, List.take 73 (hs0.add t).l = (hs0.add t).l := fun t => HS.l_take (hs0_len t)
      have sp : splice (hs0.add (ofM tag (ps.take j))).l 0 (hs0.add (ofM tag (ps.take (j + 1)))).l = (hs0.add (ofM tag (ps.take (j + 1)))).l := by
        have := splice_app (a := []) (b := (hs0.add (ofM tag (ps.take j))).l) (c := []) (k := 0) (d := (hs0.add (ofM tag (ps.take (j + 1)))).l) rfl (by rw [ll, ll])
        simpa using this
      rw [HS.add_app, hst] at ga2
      have tb := take_bytes (encS p)
      have mb := map_byteOf (encS p)
      have au := all_isU8 (encS p)
      simp (config := { maxSteps := 1000000 }) only [hln, c1, c2, v4, gp, ↓gb, l73, l73', t73, ↓ga2, sp, tb, mb, au, hfl, SV.flatL, SV.flat, lookF, reduceCtorEq, Nat.reduceEqDiff, Nat.reduceAdd, Nat.reduceLeDiff, eq_self, ↓reduceIte, ↓binI, evA, Opd.ev, Sx.get, put, putO, del, dels, frD, memD, pickD, kills, views, newer, rd, upd, SV.cells?, SV.one, canLW, canV, belowL, apH, eta, SV.ren, newOwn, targets, rms, Kind.isOwn, BB, ↓PB]
      exact ⟨hj2, j + 1, ⟨[(0, 0), (1, 0), (2, 0)], by simp only [rH, rS, rz, EntM, compat, apartM, keysBelow, eta, idHs, rd, Nat.reduceAdd, Nat.reduceSub, Nat.reduceEqDiff, Nat.reduceLT, Nat.reduceLeDiff, ↓reduceIte, Kind.isOwn, exists_eq_left', ne_eq, implies_true, false_imp_iff, forall_const, reduceCtorEq, forall_eq_or_imp, forall_eq, BB], by simp [frEnt, geto, eta, SV.ren, Nat.reduceAdd, Nat.reduceEqDiff, Nat.reduceLT, Nat.reduceLeDiff, ↓reduceIte, BB]⟩, by omega, by omega⟩
    · obtain rfl : j = ps.length := by omega
      have e1 : ps.take ps.length = ps := List.take_length
      have gs := gSum_eq (h := hs0.add (ofM tag ps)) (hs0_len _) (by rw [hs0_n]; omega)
      rw [hs0_n, HS.add_app] at gs
      have gs : gSum [.agg (hs0.add (ofM tag ps)).l] = some (.agg (bys (sumS (ofM tag ps)))) := gs
      have hx : (sumS (ofM tag ps)).length = 32 := sumS_len _
      generalize hX : sumS (ofM tag ps) = X at *
      have c3 : decide ((ps.length : Int) < (ps.length : Int)) = false := by simp
      have ho : ofS tag ps = X.take 16 := by unfold ofS; rw [hX]
      have t16 : List.take 16 (bys X) = bys (X.take 16) := by simp [bys, List.map_take]
      have l16 : (X.take 16).length = 16 := by simp [hx]
      have hxl : (bys X).length = 32 := by rw [len_bytes, hx]
      have t73 := HS.l_take (hs0_len (ofM tag ps))
      have l73 := ll (ofM tag ps)
      rw [e1, ho]
      simp (config := { maxSteps := 1000000 }) only [c3, l73, t73, ↓gs, hfl, hxl, SV.flatL, SV.flat, lookF, reduceCtorEq, Nat.reduceEqDiff, Nat.reduceAdd, Nat.reduceLT, Int.reduceToNat, Int.reduceLE, eq_self, ↓reduceIte, ↓binI, ↓evRes, Opd.ev, Sx.get, put, putO, del, dels, rd, upd, SV.cells?, retOf, BB, ↓PB]
      have sX : ∀ z : List SV, z.length = 32 → splice z 0 (bys X) = bys X := fun z hz => splice_all (by rw [hxl, hz])
      have lY : (bys (X.take 16)).length = 16 := by rw [len_bytes, l16]
      have sY : splice z16 0 (bys (X.take 16)) = bys (X.take 16) := splice_all (by rw [lY]; rfl)
      rw [sX, t16, sY, List.take_of_length_le (by omega : (bys (X.take 16)).length ≤ 16)]
      · exact ⟨by omega, by omega, by omega, by decide, by omega, rfl⟩
      · rfl
def unStr : List SV → Option (List (List UInt8))
  | [] => some []
  | .str s :: l => match unStr l with
    | some r => some (s :: r)
    | none => none
  | _ => none
theorem unStr_strs : ∀ ps : List (List UInt8), unStr (strs ps) = some ps
  | [] => rfl
  | p :: ps => by simp only [strs, List.map_cons, unStr]; rw [show List.map SV.str ps = strs ps from rfl, unStr_strs ps]
theorem unStr_some : ∀ {l : List SV} {ps : List (List UInt8)}, unStr l = some ps → l = strs ps
  | [], ps, h => by simp only [unStr] at h; cases h; rfl
  | x :: l, ps, h => by
    unfold unStr at h
    split at h
    · rename_i he; cases he
    · rename_i s l' he
      cases he
      split at h
      · rename_i r hr; cases h; rw [unStr_some hr]; rfl
      · cases h
    · cases h
def okT (tag : Int) (ps : List (List UInt8)) : Prop := (∀ p ∈ ps, p.length ≤ 2 ^ 39) ∧ (ofM tag ps).length < 2 ^ 37 ∧ ps.length < 2 ^ 37
instance (tag : Int) (ps : List (List UInt8)) : Decidable (okT tag ps) := by unfold okT; infer_instance
def gOf : GS
  | [.int .i64 tag, .slc 0 0 1 len cap], [(0, ⟨.view, cells⟩)] => match unStr cells with
    | some ps => match capB cap ps.length with
      | true => if len = ps.length ∧ okT tag ps then some (.agg (bys (ofS tag ps)), [], 1) else none
      | _ => none
    | none => none
  | _, _ => none
theorem gOf_ok : FunS Tryd.prog tH 39 gOf := by
  intro a0 m0 r m1 n1 h
  unfold gOf at h
  split at h
  · split at h
    · rename_i ps hps
      split at h
      · rename_i hcap
        split at h
        · rename_i hc
          cases h
          obtain ⟨rfl, h1, h2, h3⟩ := hc
          rw [unStr_some hps]
          exact ⟨f39 _ ps h1 (by omega) (by omega) _ (capB_ok hcap), by simp [freshB]⟩
        · cases h
      · cases h
    · cases h
  · cases h
end Go.Proofs.YtkfbkooobfepeaaDoor

/- The reference's rotation. -/
namespace Go.Proofs.YtkfbkooobfepeaaDoor
open Go Go.Sx Sf
set_option maxRecDepth 100000
set_option linter.unusedSimpArgs false
set_option linter.unusedVariables false
variable {tS : List (Nat × List SV)}
theorem or_comm32 (a b : Int) : bitop .or .u32 a b = bitop .or .u32 b a := by
  unfold bitop
  simp only
  rw [BitVec.or_comm]
theorem f90 (n : Int) (r : Nat) (h1 : 1 ≤ r) (h2 : r ≤ 31) : Fun Tryd.prog tS 90 [.int .u32 n, .int .i64 (r : Int)] [] 0 (.int .u32 (rotI n r)) [] 0 := by
  refine fun_any none cF cF_ok chk90 (show 2 ≤ 13 by decide) (by decide) ?_
  unfold sf90 oh om
  have c1 : (0 : Int) ≤ (r : Int) := by omega
  have w1 : IntKind.i64.wrap (32 - (r : Int)) = ((32 - r : Nat) : Int) := by rw [wrap64_eq (by omega) (by omega)]; omega
  simp (config := { maxSteps := 1000000 }) only [c1, w1, SV.flatL, SV.flat, Int.reduceGE, Int.reduceGT, undef, Int.reduceBNe, Int.reduceBEq, Nat.reduceBNe, Nat.reduceBEq, lookF, setv, lookT, eqPat, eqTag, reduceCtorEq, Nat.reduceEqDiff, Nat.reduceAdd, Nat.reduceSub, Nat.reduceMul, Nat.reduceDiv, Nat.reduceLeDiff, Nat.reduceLT, Int.reduceToNat, Int.reduceLT, Int.reduceLE, Int.reduceAdd, Int.reduceSub, Int.reduceMul, Int.reduceNeg, Int.reduceEq, Int.reduceNe, false_imp_iff, true_imp_iff, eq_self, imp_self, implies_true, frOf, setv, evW, baseD, stBlk, touch, clear, untouched, updsW, ↓reduceIte, ↓binI, ↓binS, ↓fillE, ↓evRes, evA, Opd.ev, Sx.get, put, putO, del, dels, frD, memD, pickD, kills, views, newer, rd, rm, upd, splice, keysOf, kvOf, SV.cells?, SV.one, retOf, canLW, canV, canC, belowL, apH, apH1, eta, SV.ren, SV.renL, newOwn, targets, rms, Kind.isOwn, BB, ↓PB]
  exact ⟨by omega, [], by simp [EntM, compat, apartM, keysBelow, frEnt, geto, eta, idHs, rd, SV.ren, SV.renL, Nat.reduceAdd, Nat.reduceSub, Nat.reduceEqDiff, Nat.reduceLT, Nat.reduceLeDiff, ↓reduceIte, Kind.isOwn, exists_eq_left', ne_eq, implies_true, List.forall_mem_cons, false_imp_iff, forall_const, reduceCtorEq, forall_eq_or_imp, forall_eq, exists_eq_left, Option.some_inj, BB], or_comm32 _ _⟩
def gRotR : List SV → Option SV
  | [.int .u32 n, .int .i64 (.ofNat r)] => if 1 ≤ r ∧ r ≤ 31 then some (.int .u32 (rotI n r)) else none
  | _ => none
theorem g90 {n : Int} {r : Nat} (h1 : 1 ≤ r) (h2 : r ≤ 31) : gRotR [.int .u32 n, .int .i64 (r : Int)] = some (.int .u32 (rotI n r)) := by
  show gRotR [.int .u32 n, .int .i64 (.ofNat r)] = _
  simp only [gRotR]
  rw [if_pos ⟨h1, h2⟩]
def tabQ9 : Tab := ⟨[(90, gRotR)], []⟩
end Go.Proofs.YtkfbkooobfepeaaDoor

/- The reference's schedule. -/
namespace Go.Proofs.YtkfbkooobfepeaaDoor
open Go Go.Sx Sf
set_option maxRecDepth 100000
set_option linter.unusedVariables false
variable {tS : List (Nat × List SV)}
theorem tabQ9_ok : TabX Tryd.prog tS tabQ9 := by
  refine ⟨fun x h args r hr => ?_, fun x h => by simp [tabQ9] at h⟩
  simp only [tabQ9, List.mem_singleton] at h
  subst h
  simp only at hr
  unfold gRotR at hr
  split at hr
  · split at hr
    · rename_i hc
      cases hr
      exact ⟨f90 _ _ hc.1 hc.2, fun η => by simp only [SV.renL, SV.ren], fun η => by simp only [SV.renL, SV.ren]⟩
    · cases hr
  · cases hr
theorem wrap_w (x : Int) : IntKind.u32.wrap x = ((BitVec.ofInt 32 x).toNat : Int) := by
  rw [wrapU32, BitVec.toNat_ofInt]
  omega
theorem push_w (w : W32) (x : Int) : pushB (w.toNat : Int) x = ((w <<< 8 ||| BitVec.ofInt 32 x).toNat : Int) := by
  unfold pushB
  rw [w_shl w 8 (by decide), wrap_w x, w_or]
theorem or4 (x0 x1 x2 x3 : Int) : bitop .or .u32 (bitop .or .u32 (bitop .or .u32 (IntKind.u32.wrap (IntKind.u32.wrap x0 * 2 ^ (min 24 IntKind.u32.bits))) (IntKind.u32.wrap (IntKind.u32.wrap x1 * 2 ^ (min 16 IntKind.u32.bits))))
    (IntKind.u32.wrap (IntKind.u32.wrap x2 * 2 ^ (min 8 IntKind.u32.bits)))) (IntKind.u32.wrap x3) = pushB (pushB (pushB (pushB 0 x0) x1) x2) x3 := by
  have e0 : pushB 0 x0 = ((((0 : W32) <<< 8) ||| BitVec.ofInt 32 x0).toNat : Int) := push_w 0 x0
  rw [e0, push_w, push_w, push_w, wrap_w x0, wrap_w x1, wrap_w x2, wrap_w x3, w_shl _ 24 (by decide), w_shl _ 16 (by decide), w_shl _ 8 (by decide), w_or, w_or, w_or]
  congr 2
  simp [BitVec.shiftLeft_or_distrib, ← BitVec.shiftLeft_add]
set_option maxHeartbeats 4000000 in
theorem f89 (b : List Int) (hb : b.length = 64) (cap : Option Nat) (hcap : CapOk cap 64) : Fun Tryd.prog tS 89 [.slc 0 0 1 64 cap] [(0, ⟨.view, b.map u8⟩)] 1 (.agg ((schI b 64).map u32)) [] 1 := by
  refine fun_val none (callX tabQ9) (callX_ok tabQ9_ok) chk89 (show 1 ≤ 101 by decide) (fun η => ren_u32 η _) ?_
  unfold sf89 oh om oq ov
  simp (config := { maxSteps := 1000000 }) only [tabQ9, reduceCtorEq, Nat.reduceEqDiff, Nat.reduceAdd, frOf, ↓reduceIte, Opd.ev, put, putO, del, dels, BB, ↓PB]
  rw [den_loop]
  have hW := fun η t => cW_ren η b t
  have hM := fun η t n => cM_ren η b t n
  have hB := fun η => u8_ren η b
  have hz := fun η => z64_ren η
  have hlen : (b.map u8).length = 64 := by simp [hb]
  refine den_inv (callX_ok tabQ9_ok) (σ := Nat) (fun t => [(4, .int .i64 (t : Int)), (3, .ptr 2 0), (2, .ptr 1 0), (0, .slc 0 0 1 64 cap)])
    (fun t => [(2, ⟨.own 121, cW b t⟩), (1, ⟨.own 121, z64⟩), (0, ⟨.view, b.map u8⟩)]) (fun _ => 3) (fun t => t ≤ 16) (fun t => 16 - t) 0 ?_ (Nat.zero_le _) ?_
  · exact ⟨[(0, 0), (1, 0), (2, 0)], by simp only [hW, hB, hz, EntM, compat, apartM, keysBelow, eta, idHs, rd, Nat.reduceAdd, Nat.reduceSub, Nat.reduceLT, Nat.reduceLeDiff, ↓reduceIte, Kind.isOwn, exists_eq_left', ne_eq, implies_true, false_imp_iff, forall_const, reduceCtorEq, forall_eq_or_imp, forall_eq, BB]; trivial, by simp [frEnt, geto, eta, SV.ren, Nat.reduceAdd, Nat.reduceEqDiff, Nat.reduceLT, Nat.reduceLeDiff, ↓reduceIte, reduceCtorEq, BB]⟩
  · intro t ht
    by_cases h16 : t < 16
    · have i1 : (t : Int) < 16 := by omega
      have i0 : (0 : Int) ≤ (t : Int) := by omega
      have i3 : (t : Int) < 64 := by omega
      have wt : IntKind.i64.wrap ((t : Int) + 1) = ((t + 1 : Nat) : Int) := by rw [wrap64 (by omega) (by omega)]; omega
      have w1 : IntKind.i64.wrap (4 * (t : Int)) = ((4 * t : Nat) : Int) := by rw [wrap64 (by omega) (by omega)]; omega
      have w2 : IntKind.i64.wrap (((4 * t : Nat) : Int) + 1) = ((4 * t + 1 : Nat) : Int) := by rw [wrap64 (by omega) (by omega)]; omega
      have w3 : IntKind.i64.wrap (((4 * t : Nat) : Int) + 2) = ((4 * t + 2 : Nat) : Int) := by rw [wrap64 (by omega) (by omega)]; omega
      have w4 : IntKind.i64.wrap (((4 * t : Nat) : Int) + 3) = ((4 * t + 3 : Nat) : Int) := by rw [wrap64 (by omega) (by omega)]; omega
      have hj : ∀ j, 4 * t + j < 64 → (b.map u8)[4 * t + j]? = some (u8 (b.getD (4 * t + j) 0)) := by
        intro j hj
        simp [List.getD_eq_getElem?_getD, show 4 * t + j < b.length by omega]
      have h0 := hj 0 (by omega)
      rw [Nat.add_zero] at h0
      have h1 := hj 1 (by omega)
      have h2 := hj 2 (by omega)
      have h3 := hj 3 (by omega)
      have v0 : (0 : Int) ≤ ((4 * t : Nat) : Int) ∧ ((4 * t : Nat) : Int) < 64 := by omega
      have v1 : (0 : Int) ≤ ((4 * t + 1 : Nat) : Int) ∧ ((4 * t + 1 : Nat) : Int) < 64 := by omega
      have v2 : (0 : Int) ≤ ((4 * t + 2 : Nat) : Int) ∧ ((4 * t + 2 : Nat) : Int) < 64 := by omega
      have v3 : (0 : Int) ≤ ((4 * t + 3 : Nat) : Int) ∧ ((4 * t + 3 : Nat) : Int) < 64 := by omega
      simp (config := { maxSteps := 1000000 }) only [h0, h1, h2, h3, hlen, i1, i0, i3, w1, w2, w3, w4, v0.1, v0.2, v1.1, v1.2, v2.1, v2.2, v3.1, v3.2, cW_len (show t ≤ 64 by omega), cW_put (show t < 64 by omega), wt, u8, or4, reduceCtorEq, Nat.reduceEqDiff, Nat.reduceLeDiff, Int.reduceToNat, Int.reduceLE, eq_self, ↓reduceIte, ↓binI, Opd.ev, Sx.get, put, putO, del, dels, rd, upd, SV.cells?, SV.one, BB, ↓PB]
      refine ⟨by omega, by omega, by omega, by omega, by omega, t + 1, ⟨[(0, 0), (1, 0), (2, 0)], ?_, by simp [frEnt, geto, eta, SV.ren, Nat.reduceAdd, Nat.reduceEqDiff, Nat.reduceLT, Nat.reduceLeDiff, ↓reduceIte, reduceCtorEq, BB]⟩, by omega, by omega⟩
      rw [← cM_step (b := b) (t := t), show nxt b (schI b t) t = be4 b t from if_pos h16]
      unfold be4
      simp only [hM, hB, hz, EntM, compat, apartM, keysBelow, eta, idHs, rd, Nat.reduceAdd, Nat.reduceSub, Nat.reduceLT, Nat.reduceLeDiff, ↓reduceIte, Kind.isOwn, exists_eq_left', ne_eq, implies_true, false_imp_iff, forall_const, reduceCtorEq, forall_eq_or_imp, forall_eq, BB]
    · obtain rfl : t = 16 := by omega
      simp (config := { maxSteps := 1000000 }) only [reduceCtorEq, Nat.reduceEqDiff, Int.reduceLT, eq_self, ↓reduceIte, ↓binI, Opd.ev, Sx.get, put, putO, del, dels, BB, ↓PB]
      rw [den_loop]
      refine den_inv (callX_ok tabQ9_ok) (σ := Nat) (fun t => [(5, .int .i64 (t : Int)), (3, .ptr 2 0), (2, .ptr 1 0)])
        (fun t => [(2, ⟨.own 121, cW b t⟩), (1, ⟨.own 121, z64⟩), (0, ⟨.view, b.map u8⟩)]) (fun _ => 3) (fun t => 16 ≤ t ∧ t ≤ 64) (fun t => 64 - t) 16 ?_ (by decide) ?_
      · exact ⟨[(0, 0), (1, 0), (2, 0)], by simp only [hW, hB, hz, EntM, compat, apartM, keysBelow, eta, idHs, rd, Nat.reduceAdd, Nat.reduceSub, Nat.reduceLT, Nat.reduceLeDiff, ↓reduceIte, Kind.isOwn, exists_eq_left', ne_eq, implies_true, false_imp_iff, forall_const, reduceCtorEq, forall_eq_or_imp, forall_eq, BB], by simp [frEnt, geto, eta, SV.ren, Nat.reduceAdd, Nat.reduceEqDiff, Nat.reduceLT, Nat.reduceLeDiff, ↓reduceIte, BB]⟩
      · intro t ht
        by_cases h64 : t < 64
        · have i1 : (t : Int) < 64 := by omega
          have i0 : (0 : Int) ≤ (t : Int) := by omega
          have wt : IntKind.i64.wrap ((t : Int) + 1) = ((t + 1 : Nat) : Int) := by rw [wrap64 (by omega) (by omega)]; omega
          have a1 : IntKind.i64.wrap ((t : Int) - 15) = ((t - 15 : Nat) : Int) := by rw [wrap64 (by omega) (by omega)]; omega
          have a2 : IntKind.i64.wrap ((t : Int) - 2) = ((t - 2 : Nat) : Int) := by rw [wrap64 (by omega) (by omega)]; omega
          have a3 : IntKind.i64.wrap ((t : Int) - 16) = ((t - 16 : Nat) : Int) := by rw [wrap64 (by omega) (by omega)]; omega
          have a4 : IntKind.i64.wrap ((t : Int) - 7) = ((t - 7 : Nat) : Int) := by rw [wrap64 (by omega) (by omega)]; omega
          have b1 : (0 : Int) ≤ ((t - 15 : Nat) : Int) ∧ ((t - 15 : Nat) : Int) < 64 := by omega
          have b2 : (0 : Int) ≤ ((t - 2 : Nat) : Int) ∧ ((t - 2 : Nat) : Int) < 64 := by omega
          have b3 : (0 : Int) ≤ ((t - 16 : Nat) : Int) ∧ ((t - 16 : Nat) : Int) < 64 := by omega
          have b4 : (0 : Int) ≤ ((t - 7 : Nat) : Int) ∧ ((t - 7 : Nat) : Int) < 64 := by omega
          have c1 : (cW b t)[t - 15]? = _ := cW_get (by omega)
          have c2 : (cW b t)[t - 2]? = _ := cW_get (by omega)
          have c3 : (cW b t)[t - 16]? = _ := cW_get (by omega)
          have c4 : (cW b t)[t - 7]? = _ := cW_get (by omega)
          have g7 : ∀ n, gRotR [.int .u32 n, .int .i64 7] = some (.int .u32 (rotI n 7)) := fun n => g90 (r := 7) (by decide) (by decide)
          have g18 : ∀ n, gRotR [.int .u32 n, .int .i64 18] = some (.int .u32 (rotI n 18)) := fun n => g90 (r := 18) (by decide) (by decide)
          have g17 : ∀ n, gRotR [.int .u32 n, .int .i64 17] = some (.int .u32 (rotI n 17)) := fun n => g90 (r := 17) (by decide) (by decide)
          have g19 : ∀ n, gRotR [.int .u32 n, .int .i64 19] = some (.int .u32 (rotI n 19)) := fun n => g90 (r := 19) (by decide) (by decide)
          simp (config := { maxSteps := 1000000 }) only [i1, i0, a1, a2, a3, a4, b1.1, b2.1, b3.1, b4.1, b1.2, b2.2, b3.2, b4.2, c1, c2, c3, c4, ↓g7, ↓g18, ↓g17, ↓g19, cW_len ht.2, cW_put h64, wt, u32, SV.flatL, SV.flat, lookF, reduceCtorEq, Nat.reduceEqDiff, Nat.reduceLeDiff, Int.reduceToNat, Int.reduceLE, eq_self, ↓reduceIte, ↓binI, Opd.ev, Sx.get, put, putO, del, dels, rd, upd, SV.cells?, SV.one, BB, ↓PB]
          refine ⟨by omega, t + 1, ⟨[(0, 0), (1, 0), (2, 0)], ?_, by simp [frEnt, geto, eta, SV.ren, Nat.reduceAdd, Nat.reduceEqDiff, Nat.reduceLT, Nat.reduceLeDiff, ↓reduceIte, BB]⟩, by omega, by omega⟩
          rw [← cM_step (b := b) (t := t), show nxt b (schI b t) t = _ from if_neg (by omega)]
          unfold addI sig0 sig1 shrI
          simp only [hM, hB, hz, EntM, compat, apartM, keysBelow, eta, idHs, rd, Nat.reduceAdd, Nat.reduceSub, Nat.reduceLT, Nat.reduceLeDiff, ↓reduceIte, Kind.isOwn, exists_eq_left', ne_eq, implies_true, false_imp_iff, forall_const, reduceCtorEq, forall_eq_or_imp, forall_eq, BB]
        · obtain rfl : t = 64 := by omega
          simp (config := { maxSteps := 1000000 }) only [reduceCtorEq, Nat.reduceEqDiff, Int.reduceLT, eq_self, ↓reduceIte, ↓binI, ↓evRes, Opd.ev, Sx.get, put, putO, del, dels, rd, upd, splice, SV.cells?, retOf, BB, ↓PB]
          have hl := cW_len (b := b) (Nat.le_refl 64)
          have hz : z64.length = 64 := by simp [z64]
          have hd : List.drop 64 z64 = [] := List.drop_of_length_le (by omega)
          rw [List.take_of_length_le (by omega : (cW b 64).length ≤ 64), hl, hd, List.append_nil, hl, hz, List.take_of_length_le (by omega : (cW b 64).length ≤ 64), cW_all]
          exact ⟨Nat.le_refl _, rfl, Nat.le_refl _, Nat.le_refl _, rfl⟩
theorem gSchR_ok : FunS Tryd.prog tS 89 gSch := by
  intro a0 m0 r m1 n1 h
  unfold gSch at h
  split at h
  · rename_i cap cells
    split at h
    · rename_i b hb
      split at h
      · rename_i h1 h2
        cases h
        rw [unI8_some hb]
        exact ⟨f89 b (Nat.eq_of_beq_eq_true h1) cap (capB_ok h2), by simp [freshB]⟩
      · cases h
    · cases h
  · cases h
end Go.Proofs.YtkfbkooobfepeaaDoor

/- The reference's hash of a message. -/
namespace Go.Proofs.YtkfbkooobfepeaaDoor
open Go Go.Sx Sf
set_option maxRecDepth 100000
set_option linter.unusedVariables false
def tH2 : List (Nat × List SV) := [(0, kc.map u32), (1, kc.map u32)]
def tabRef : List (FuncId × GS) := [(88, gPad), (89, gSch)]
theorem tabRef_ok {tS : List (Nat × List SV)} : ∀ x ∈ tabRef, FunS Tryd.prog tS x.1 x.2 := by
  intro x hx
  simp only [tabRef, List.mem_cons, List.not_mem_nil, or_false] at hx
  rcases hx with rfl | rfl
  · exact gPad_ok
  · exact gSchR_ok
def cRef : CallT := callS tabRef (callX tabQ9)
theorem cRef_ok {tS : List (Nat × List SV)} : ∀ f a m n K, cRef f a m n K → callT Tryd.prog tS f a m n K := callS_ok tabRef_ok (callX_ok tabQ9_ok)
theorem gPad_eq {m : List UInt8} {cap : Option Nat} (hm : m.length ≤ 2 ^ 38) (hcap : CapOk cap m.length) :
    gPad [.slc 0 0 1 m.length cap] [(0, ⟨.view, bys m⟩)] = some (.slc 1 0 1 (m ++ padS m.length).length none, [(1, ⟨.own 5, bys (m ++ padS m.length)⟩)], 2) := by
  have hcb : capB cap m.length = true := by
    cases cap with
    | none => rfl
    | some c => exact Nat.ble_eq_true_of_le (hcap c rfl)
  unfold gPad
  simp only [unB_bytes, hcb, hm, and_self, if_true]
theorem gSch_eq {b : List UInt8} (hb : b.length = 64) : gSch [.slc 0 0 1 64 none] [(0, ⟨.view, bys b⟩)] = some (.agg ((schI (byI b) 64).map u32), [], 1) := by
  unfold gSch
  simp only
  rw [← bys_u8, unI8_map]
  simp only [byI_len, hb]
  rfl
theorem not_eq32 (e : Int) : bitop .xor .u32 e 4294967295 = notI e := by
  have h : (if IntKind.u32.signed then (-1 : Int) else IntKind.u32.max) = 4294967295 := by decide
  unfold notI
  rw [h]
  unfold bitop
  simp only
  rw [BitVec.xor_comm]
theorem lookR : lookT tH2 1 = some (kc.map u32) := (rfl)
set_option maxHeartbeats 8000000 in
theorem f74 (m : List UInt8) (hm : m.length ≤ 2 ^ 37) (cap : Option Nat) (hcap : CapOk cap m.length) :
    Fun Tryd.prog tH2 74 [.slc 0 0 1 m.length cap] [(0, ⟨.view, bys m⟩)] 1 (.agg (bys (sumS m))) [] 1 := by
  refine fun_val none cRef cRef_ok chk74 (show 1 ≤ 148 by decide) (fun η => by simp only [SV.ren, ren_bytes]) ?_
  unfold sf74 oh om oq ov
  have gp := gPad_eq (m := m) (cap := cap) (by omega) hcap
  have tm := take_bytes m
  simp (config := { maxSteps := 1000000 }) only [cRef, tabRef, tabQ9, ↓gp, tm, lookF, reduceCtorEq, Nat.reduceEqDiff, Nat.reduceAdd, Nat.reduceSub, Nat.reduceLeDiff, Nat.reduceLT, eq_self, frOf, ↓reduceIte, ↓fillE, Opd.ev, Sx.get, put, putO, del, dels, rd, upd, splice, SV.cells?, SV.one, canLW, canV, canC, belowL, apH, apH1, eta, SV.ren, newOwn, targets, rms, Kind.isOwn, BB, ↓PB]
  rw [den_loop]
  have hML : ∃ T, (m ++ padS m.length).length = 64 * T := ⟨(m ++ padS m.length).length / 64, by have := padS_mod m.length; simp only [List.length_append] at this ⊢; omega⟩
  have hMu : (m ++ padS m.length).length ≤ 2 ^ 38 := by have := padS_len m.length; have := padZ_le m.length; simp only [List.length_append]; omega
  have hfin : sumS m = outS (valS (m ++ padS m.length)) := rfl
  generalize hM : m ++ padS m.length = M at *
  obtain ⟨T, hT⟩ := hML
  rw [hT, hfin]
  have rB : ∀ η (b : List UInt8), SV.renL η (bys b) = bys b := fun η b => ren_bytes η b
  have rV : ∀ η (s : V8), SV.renL η (s.l.map u32) = s.l.map u32 := fun η s => ren_w η _
  have rW : ∀ η l, SV.renL η (List.map u32 l) = List.map u32 l := fun η l => ren_w η l
  have hz : ∀ η, SV.renL η z32 = z32 := fun η => outC_ren η iv 0
  have v0 : valS (M.take (64 * 0)) = iv := rfl
  have hMl : (bys M).length = 64 * T := by rw [len_bytes, hT]
  refine den_inv cRef_ok (σ := Nat) (fun t => [(5, .int .i64 ((64 * t : Nat) : Int)), (4, .slc 3 0 1 (64 * T) none), (3, .ptr 2 0), (2, .ptr 1 0)])
    (fun t => [(3, ⟨.own 5, bys M⟩), (2, ⟨.own 83, (valS (M.take (64 * t))).l.map u32⟩), (1, ⟨.own 89, z32⟩)]) (fun _ => 4) (fun t => t ≤ T) (fun t => T - t) 0 ?_ (Nat.zero_le _) ?_
  · exact ⟨[(0, 0), (1, 0), (2, 0), (3, 0)], by simp only [v0, rB, rV, hz, EntM, compat, apartM, keysBelow, eta, idHs, rd, Nat.reduceAdd, Nat.reduceSub, Nat.reduceEqDiff, Nat.reduceLT, Nat.reduceLeDiff, ↓reduceIte, Kind.isOwn, exists_eq_left', ne_eq, implies_true, false_imp_iff, forall_const, forall_eq_or_imp, forall_eq, BB]; exact ⟨rfl, rfl⟩, by simp [frEnt, geto, eta, SV.ren, Nat.reduceAdd, Nat.reduceEqDiff, Nat.reduceLT, Nat.reduceLeDiff, ↓reduceIte, BB]⟩
  · intro t ht
    by_cases htT : t < T
    · have c1 : ((64 * t : Nat) : Int) < ((64 * T : Nat) : Int) := by omega
      have w1 : IntKind.i64.wrap (((64 * t : Nat) : Int) + 64) = ((64 * (t + 1) : Nat) : Int) := by rw [wrap64_eq (by omega) (by omega)]; omega
      have k1 : (0 : Int) ≤ ((64 * t : Nat) : Int) := by omega
      have k2 : ((64 * t : Nat) : Int) ≤ ((64 * (t + 1) : Nat) : Int) := by omega
      have kle : 64 * t + 64 ≤ 64 * T := by omega
      have k3 : 64 * (t + 1) - 64 * t = 64 := by omega
      have tk : List.take 64 (List.drop (64 * t) (bys M)) = bys ((M.drop (64 * t)).take 64) := by simp [bys, List.map_take, List.map_drop]
      have hbl : ((M.drop (64 * t)).take 64).length = 64 := by simp; omega
      have gs := gSch_eq hbl
      have hst := valS_step (m := M) (t := t) (by omega)
      generalize hb : (M.drop (64 * t)).take 64 = b at *
      have hsl : (List.map u32 (schI (byI b) 64)).length = 64 := by simp [schI_len]
      have hl8 : (List.map u32 (valS (M.take (64 * t))).l).length = 8 := rfl
      have tk8 : List.take 8 (List.map u32 (valS (M.take (64 * t))).l) = List.map u32 (valS (M.take (64 * t))).l := rfl
      simp (config := { maxSteps := 1000000 }) only [c1, w1, k1, k2, k3, kle, Option.map_none, tk, ↓gs, hsl, hl8, tk8, rW, hMl, lookF, Nat.reduceEqDiff, Nat.reduceAdd, Nat.reduceSub, Nat.reduceLT, eq_self, ↓reduceIte, ↓binI, Opd.ev, Sx.get, put, putO, del, dels, rd, upd, SV.cells?, canLW, canV, canC, belowL, apH, apH1, SV.ren, newOwn, targets, rms, Kind.isOwn, BB, ↓PB]
      have sW : ∀ z : List SV, z.length = 64 → splice z 0 (List.map u32 (schI (byI b) 64)) = List.map u32 (schI (byI b) 64) := fun z hz => splice_all (hsl.trans hz.symm)
      have sV : ∀ z : List SV, z.length = 8 → splice z 0 (List.map u32 (valS (M.take (64 * t))).l) = List.map u32 (valS (M.take (64 * t))).l := fun z hz => splice_all (hl8.trans hz.symm)
      rw [sW, sV]
      rotate_left
      · rfl
      · rfl
      refine ⟨by omega, ?_⟩
      rw [den_loop]
      generalize hs0 : valS (M.take (64 * t)) = s0 at *
      obtain ⟨a0, a1, a2, a3, a4, a5, a6, a7⟩ := s0
      generalize hRe : (fun r => V8.rounds (schI (byI b) 64) ⟨a0, a1, a2, a3, a4, a5, a6, a7⟩ r) = R
      have hR0 : R 0 = ⟨a0, a1, a2, a3, a4, a5, a6, a7⟩ := by rw [← hRe]; rfl
      have rWW : ∀ η, SV.renL η (List.map u32 (schI (byI b) 64)) = List.map u32 (schI (byI b) 64) := fun η => ren_w η _
      have ru : ∀ η n, (u32 n).ren η = u32 n := fun _ _ => rfl
      generalize hW : List.map u32 (schI (byI b) 64) = W at *
      refine den_inv cRef_ok (σ := Nat) (fun r => [(8, .int .i64 (r : Int)), (7, .ptr 5 0), (6, .ptr 4 0), (5, .int .i64 ((64 * t : Nat) : Int)), (4, .slc 3 0 1 (64 * T) none), (3, .ptr 2 0), (2, .ptr 1 0)])
        (fun r => [(5, ⟨.own 83, [u32 (R r).a, u32 (R r).b, u32 (R r).c, u32 (R r).d, u32 (R r).e, u32 (R r).f, u32 (R r).g, u32 (R r).h]⟩), (4, ⟨.own 121, W⟩), (3, ⟨.own 5, bys M⟩), (2, ⟨.own 83, [u32 a0, u32 a1, u32 a2, u32 a3, u32 a4, u32 a5, u32 a6, u32 a7]⟩), (1, ⟨.own 89, z32⟩)]) (fun _ => 6)
        (fun r => r ≤ 64) (fun r => 64 - r) 0 ?_ (Nat.zero_le _) ?_
      · exact ⟨[(0, 0), (1, 0), (2, 0), (3, 0), (4, 0), (5, 0)], by simp only [V8.l, rB, rWW, ru, hz, hR0, EntM, compat, apartM, keysBelow, eta, idHs, rd, SV.renL, Nat.reduceAdd, Nat.reduceSub, Nat.reduceEqDiff, Nat.reduceLT, Nat.reduceLeDiff, ↓reduceIte, Kind.isOwn, exists_eq_left', ne_eq, implies_true, false_imp_iff, forall_const, forall_eq_or_imp, forall_eq, BB] <;> exact ⟨rfl, rfl⟩, by simp [frEnt, geto, eta, SV.ren, Nat.reduceAdd, Nat.reduceEqDiff, Nat.reduceLT, Nat.reduceLeDiff, ↓reduceIte, BB]⟩
      · intro r hr
        by_cases h64 : r < 64
        · have d1 : (r : Int) < 64 := by omega
          have d2 : (0 : Int) ≤ (r : Int) := by omega
          have wt : IntKind.i64.wrap ((r : Int) + 1) = ((r + 1 : Nat) : Int) := by rw [wrap64_eq (by omega) (by omega)]; omega
          have gk : (List.map u32 kc)[r]? = some (u32 (kc.getD r 0)) := by
            have : kc.length = 64 := rfl
            simp [List.getD_eq_getElem?_getD, show r < kc.length by omega]
          have gw : W[r]? = some (u32 ((schI (byI b) 64).getD r 0)) := by
            rw [← hW]
            simp [List.getD_eq_getElem?_getD, schI_len, h64]
          have hR1 : R (r + 1) = (R r).round ((schI (byI b) 64).getD r 0) (kc.getD r 0) := by rw [← hRe]; rfl
          generalize hk : kc.getD r 0 = k at *
          generalize hwt : (schI (byI b) 64).getD r 0 = w at *
          rcases hRt : R r with ⟨a, bb, c, d, e, f, g, h⟩
          simp only
          have g6 : ∀ n, gRotR [.int .u32 n, .int .i64 6] = some (.int .u32 (rotI n 6)) := fun n => g90 (r := 6) (by decide) (by decide)
          have g11 : ∀ n, gRotR [.int .u32 n, .int .i64 11] = some (.int .u32 (rotI n 11)) := fun n => g90 (r := 11) (by decide) (by decide)
          have g25 : ∀ n, gRotR [.int .u32 n, .int .i64 25] = some (.int .u32 (rotI n 25)) := fun n => g90 (r := 25) (by decide) (by decide)
          have g2 : ∀ n, gRotR [.int .u32 n, .int .i64 2] = some (.int .u32 (rotI n 2)) := fun n => g90 (r := 2) (by decide) (by decide)
          have g13 : ∀ n, gRotR [.int .u32 n, .int .i64 13] = some (.int .u32 (rotI n 13)) := fun n => g90 (r := 13) (by decide) (by decide)
          have g22 : ∀ n, gRotR [.int .u32 n, .int .i64 22] = some (.int .u32 (rotI n 22)) := fun n => g90 (r := 22) (by decide) (by decide)
          simp (config := { maxSteps := 1000000 }) only [↓g6, ↓g11, ↓g25, ↓g2, ↓g13, ↓g22, d1, d2, gk, gw, wt, u32, lookR, not_eq32, SV.flatL, SV.flat, lookF, Nat.reduceEqDiff, Nat.reduceAdd, Nat.reduceLeDiff, Int.reduceToNat, Int.reduceLT, Int.reduceLE, eq_self, ↓reduceIte, ↓binI, ↓fillE, Opd.ev, Sx.get, put, putO, del, dels, rd, upd, splice, SV.cells?, SV.one, BB, ↓PB]
          rw [hRt] at hR1
          refine ⟨r + 1, ⟨[(0, 0), (1, 0), (2, 0), (3, 0), (4, 0), (5, 0)], ?_, ?_⟩, by omega, by omega⟩
          · simp only [hR1, V8.round, addI, xorI, andI, mixI, rB, rWW, hz, EntM, compat, apartM, keysBelow, eta, idHs, rd, SV.ren, SV.renL, Nat.reduceAdd, Nat.reduceSub, Nat.reduceEqDiff, Nat.reduceLT, Nat.reduceLeDiff, ↓reduceIte, Kind.isOwn, exists_eq_left', ne_eq, implies_true, false_imp_iff, forall_const, forall_eq_or_imp, forall_eq, BB]
          · simp only [frEnt, geto, eta, SV.ren, Nat.reduceAdd, Nat.reduceSub, Nat.reduceEqDiff, ↓reduceIte, BB]
        · obtain rfl : r = 64 := by omega
          rcases hRt : R 64 with ⟨a, bb, c, d, e, f, g, h⟩
          have hcomp : comp ⟨a0, a1, a2, a3, a4, a5, a6, a7⟩ (byI b) = V8.add ⟨a0, a1, a2, a3, a4, a5, a6, a7⟩ ⟨a, bb, c, d, e, f, g, h⟩ := by
            unfold comp; rw [← hRt, ← hRe]
          simp only
          simp (config := { maxSteps := 1000000 }) only [u32, Nat.reduceEqDiff, Int.reduceLT, eq_self, ↓reduceIte, ↓binI, Opd.ev, Sx.get, put, putO, del, dels, BB, ↓PB]
          rw [den_loop]
          refine den_unroll cRef_ok (callT_point _ _) 9 ?_
          simp (config := { maxSteps := 1000000 }) only [w1, Nat.reduceEqDiff, Nat.reduceAdd, Nat.reduceLeDiff, Int.reduceToNat, Int.reduceLT, Int.reduceLE, Int.reduceAdd, Int.reduceNeg, eq_self, ↓reduceIte, ↓binI, Opd.ev, Sx.get, put, putO, del, dels, rd, upd, splice, SV.cells?, SV.one, BB, ↓PB]
          refine ⟨t + 1, ⟨[(0, 0), (1, 0), (2, 0), (3, 0)], ?_, ?_⟩, by omega, by omega⟩
          · simp only [hst, hcomp, V8.add, addI, V8.l, u32, rB, hz, EntM, compat, apartM, keysBelow, eta, idHs, rd, SV.ren, SV.renL, Nat.reduceAdd, Nat.reduceSub, Nat.reduceEqDiff, Nat.reduceLT, Nat.reduceLeDiff, ↓reduceIte, Kind.isOwn, exists_eq_left', ne_eq, implies_true, false_imp_iff, forall_const, forall_eq_or_imp, forall_eq, BB]
          · simp only [frEnt, geto, eta, SV.ren, Nat.reduceAdd, Nat.reduceSub, Nat.reduceEqDiff, ↓reduceIte, BB]
    · obtain rfl : t = T := by omega
      have eM : M.take (64 * t) = M := List.take_of_length_le (by omega)
      have c3 : decide (((64 * t : Nat) : Int) < ((64 * t : Nat) : Int)) = false := by simp
      have hl8 : (List.map u32 (valS M).l).length = 8 := rfl
      rw [eM]
      generalize hS : valS M = S at *
      simp (config := { maxSteps := 1000000 }) only [c3, Nat.reduceEqDiff, Nat.reduceAdd, eq_self, ↓reduceIte, ↓binI, Opd.ev, Sx.get, put, putO, del, dels, BB, ↓PB]
      rw [den_loop]
      have rC : ∀ η i, SV.renL η (outC S i) = outC S i := fun η i => outC_ren η S i
      have hzl : z32.length = 32 := rfl
      refine den_inv cRef_ok (σ := Nat) (fun i => [(13, .int .i64 (i : Int)), (12, .ptr 4 0), (3, .ptr 2 0), (2, .ptr 1 0)]) (fun i => [(4, ⟨.own 89, outC S i⟩), (2, ⟨.own 83, List.map u32 S.l⟩), (1, ⟨.own 89, z32⟩)]) (fun _ => 5)
        (fun i => i ≤ 32) (fun i => 32 - i) 0 ?_ (Nat.zero_le _) ?_
      · exact ⟨[(0, 0), (1, 0), (2, 0), (3, 0), (4, 0)], by simp only [rV, hz, outC_z, EntM, compat, apartM, keysBelow, eta, idHs, rd, Nat.reduceAdd, Nat.reduceSub, Nat.reduceEqDiff, Nat.reduceLT, Nat.reduceLeDiff, ↓reduceIte, Kind.isOwn, exists_eq_left', ne_eq, implies_true, false_imp_iff, forall_const, forall_eq_or_imp, forall_eq, BB] <;> rfl, by simp [frEnt, geto, eta, SV.ren, Nat.reduceAdd, Nat.reduceEqDiff, Nat.reduceLT, Nat.reduceLeDiff, ↓reduceIte, BB]⟩
      · intro i hi
        have lC := outC_len (s := S) hi
        by_cases h32 : i < 32
        · have c1 : (i : Int) < 32 := by omega
          have c2 : (0 : Int) ≤ (i : Int) := by omega
          have q1 : Int.tdiv (i : Int) 4 = ((i / 4 : Nat) : Int) := (Int.ofNat_tdiv i 4).symm
          have q2 : Int.tmod (i : Int) 4 = ((i % 4 : Nat) : Int) := (Int.ofNat_tmod i 4).symm
          have q3 : IntKind.i64.wrap ((i / 4 : Nat) : Int) = ((i / 4 : Nat) : Int) := wrap64_eq (by omega) (by omega)
          have q4 : (0 : Int) ≤ ((i / 4 : Nat) : Int) ∧ ((i / 4 : Nat) : Int) < 8 := by omega
          have hs : (List.map u32 S.l)[i / 4]? = some (.int .u32 (S.l.getD (i / 4) 0)) := by
            have hl : S.l.length = 8 := rfl
            simp [List.getD_eq_getElem?_getD, hl, show i / 4 < 8 by omega, u32]
          have v1 : IntKind.i64.wrap (8 * ((i % 4 : Nat) : Int)) = ((8 * (i % 4) : Nat) : Int) := by rw [wrap64_eq (by omega) (by omega)]; omega
          have v2 : IntKind.i64.wrap (24 - ((8 * (i % 4) : Nat) : Int)) = ((24 - 8 * (i % 4) : Nat) : Int) := by rw [wrap64_eq (by omega) (by omega)]; omega
          have v3 : (0 : Int) ≤ ((24 - 8 * (i % 4) : Nat) : Int) := by omega
          have v4 : IntKind.i64.wrap ((i : Int) + 1) = ((i + 1 : Nat) : Int) := by rw [wrap64_eq (by omega) (by omega)]; omega
          have op := outC_put (s := S) h32
          simp (config := { maxSteps := 1000000 }) only [c1, c2, q1, q2, q3, q4.1, q4.2, hs, v1, v2, v3, v4, lC, op, Nat.reduceEqDiff, Nat.reduceLeDiff, Int.reduceNe, eq_self, ↓reduceIte, ↓binI, Opd.ev, Sx.get, put, putO, del, dels, rd, upd, SV.cells?, SV.one, BB, ↓PB]
          exact ⟨by omega, i + 1, ⟨[(0, 0), (1, 0), (2, 0), (3, 0), (4, 0)], by simp only [rV, hz, rC, EntM, compat, apartM, keysBelow, eta, idHs, rd, Nat.reduceAdd, Nat.reduceSub, Nat.reduceEqDiff, Nat.reduceLT, Nat.reduceLeDiff, ↓reduceIte, Kind.isOwn, exists_eq_left', ne_eq, implies_true, false_imp_iff, forall_const, forall_eq_or_imp, forall_eq, BB], by simp [frEnt, geto, eta, SV.ren, Nat.reduceAdd, Nat.reduceEqDiff, Nat.reduceLT, Nat.reduceLeDiff, ↓reduceIte, BB]⟩, by omega, by omega⟩
        · obtain rfl : i = 32 := by omega
          simp (config := { maxSteps := 1000000 }) only [lC, Nat.reduceEqDiff, Int.reduceLT, eq_self, ↓reduceIte, ↓binI, ↓evRes, Opd.ev, Sx.get, put, putO, del, dels, rd, upd, SV.cells?, retOf, BB, ↓PB]
          have tC : List.take 32 (outC S 32) = outC S 32 := List.take_of_length_le (by omega)
          have sC : splice z32 0 (outC S 32) = outC S 32 := splice_all (by rw [lC, hzl])
          rw [tC, sC, tC]
          exact ⟨lC, by omega, by omega, outC_all S⟩
def gSumR : GS
  | [.slc 0 0 1 len cap], [(0, ⟨.view, cells⟩)] => match unB cells with
    | some m => match capB cap m.length with
      | true => if len = m.length ∧ m.length ≤ 2 ^ 37 then some (.agg (bys (sumS m)), [], 1) else none
      | _ => none
    | none => none
  | _, _ => none
theorem gSumR_ok : FunS Tryd.prog tH2 74 gSumR := by
  intro a0 m0 r m1 n1 h
  unfold gSumR at h
  split at h
  · split at h
    · rename_i m hm
      split at h
      · rename_i hcap
        split at h
        · rename_i hc
          cases h
          obtain ⟨rfl, h2⟩ := hc
          rw [unB_some hm]
          exact ⟨f74 m h2 _ (capB_ok hcap), by simp [freshB]⟩
        · cases h
      · cases h
    · cases h
  · cases h
end Go.Proofs.YtkfbkooobfepeaaDoor

/- The functions of the program that are walked through, written out for the engine (printed by wip/tools/Print.lean from the dump), and the kernel's check of each against the program. -/
namespace Go.Proofs.YtkfbkooobfepeaaDoor.Sf
open Go Go.Sx
set_option maxRecDepth 100000
def sf91 : SF := ⟨19,[.t 4,.t 5],.seq (.reg [om 4 (.c (.int .i64 0)) [4],om 5 (.c (.val .nilIface)) [5]]) (.seq (.reg [om 6 (.t 0) [],oq 7 (.call 105 [.t 6]) [6,7]]) (.seq (.reg [om 8 (.t 0)
  [],om 9 (.t 0) [0],oq 10 (.nilc (.t 9)) [9],oq 11 (.fld (.t 10) 1) [10],oq 12 (.load none (.t 11)) [11],om 13 (.t 1) [],oq 14 (.app 5 1 1 (.t 12) (.t 13)) [12,13],oq 15 (.nilc (.t 8)
 ) [8],oq 16 (.fld (.t 15) 1) [15],ov (.store 1 (.t 16) (.t 14)) [14,16]]) (.seq (.reg [om 17 (.t 1) [1],oq 18 (.len false (.t 17)) [17],om 4 (.t 18) [18],om 5 (.c (.val .nilIface)) []])
  (.ret))))⟩
theorem chk91 : chkF Tryd.prog 91 sf91 = true := by kernel_rfl

def sf92 : SF := ⟨14,[.t 2],.seq (.reg [om 2 (.c (.str [])) [2]]) (.seq (.regD 10 [oh 3 (.mv (.t 0)) [] [] [8,9,10,11,12],oh 4 (.nilc (.t 3)) [] [0] [8,9,10,11,12],oh 5 (.fld (.t 4)
  1) [] [0,1] [8,9,10,11,12],oh 6 (.load none (.t 5)) [] [0,1,2] [8,9,10,11,12],oh 7 (.sdat 1 (.t 6)) [] [0,1,2,3] [8,9,10,11,12],oh 8 (.mv (.t 0)) [] [] [3,4,5,6,7],oh 9 (.nilc (.t 8)
 ) [] [5] [3,4,5,6,7],oh 10 (.fld (.t 9) 1) [] [5,6] [3,4,5,6,7],oh 11 (.load none (.t 10)) [] [5,6,7] [3,4,5,6,7],oh 12 (.len false (.t 11)) [0,3,4,5,6,8,9,10,11] [5,6,7,8] [3,4,5,6,
 7],oh 13 (.ustr 5 (.t 7) (.t 12)) [7,12] [0,1,2,3,4,5,6,7,8,9] [],oh 2 (.mv (.t 13)) [13] [0,1,2,3,4,5,6,7,8,9,10] []]) (.ret))⟩
theorem chk92 : chkF Tryd.prog 92 sf92 = true := by kernel_rfl

def sf105 : SF := ⟨20,[],.seq (.reg [om 2 (.t 0) [],oq 3 (.nilc (.t 2)) [2],oq 4 (.fld (.t 3) 0) [3],oq 5 (.load none (.t 4)) [4],oq 6 (.pcmp false (.t 5) (.c (.val (.pointer none))
 )) [5]]) (.cond (.t 6) (.reg [om 7 (.t 0) [],om 8 (.t 0) [0],oq 9 (.cvp 131 2 (.t 8)) [8],oq 10 (.noesc 108 (.t 9)) [9],oq 11 (.cvp 131 2 (.t 10)) [10],oq 12 (.nilc (.t 7)) [7],oq 13 (.fld (.t 12)
  0) [12],ov (.store 1 (.t 13) (.t 11)) [11,13]]) (.seq (.reg [om 14 (.t 0) [],oq 15 (.nilc (.t 14)) [14],oq 16 (.fld (.t 15) 0) [15],oq 17 (.load none (.t 16)) [16],om 18 (.t 0) [0],
 oq 19 (.pcmp true (.t 17) (.t 18)) [17,18]]) (.cond (.t 19) (.bad) (.skip))))⟩
theorem chk105 : chkF Tryd.prog 105 sf105 = true := by kernel_rfl

def sf106 : SF := ⟨9,[.t 2],.seq (.reg [om 2 (.c (.int .i64 0)) [2]]) (.seq (.reg [om 3 (.t 0) [0],oq 4 (.bin .sub (.t 3) (.c (.int .i64 1))) [3],oq 5 (.conv .u64 (.t 4)) [4],oq 6 (.callp 109 [.t 5])
  [5],oq 7 (.bin .sub (.t 6) (.c (.int .i64 1))) [6],oq 8 (.bin .shl (.c (.int .i64 1)) (.t 7)) [7],om 2 (.t 8) [8]]) (.ret))⟩
theorem chk106 : chkF Tryd.prog 106 sf106 = true := by kernel_rfl

def sf107 : SF := ⟨23,[.t 4],.seq (.reg [om 4 (.c (.val (.slice none 0 0))) [4]]) (.seq (.reg [om 8 (.t 0) [0],oq 9 (.bslice 5 1 1 [.int .u8 0] [(0,1,.t 8)]) [8],om 5 (.t 9) [9]]) (.seq (.seq (.reg [om 10 (.t 1)
  [1],oq 11 (.len false (.t 10)) [],om 12 (.c (.int .i64 0)) []]) (.block 0 (.loop (.seq (.reg [oq 13 (.bin .lss (.t 12) (.t 11)) []]) (.seq (.cond (.t 13) (.skip) (.exit 0)) (.seq (.block 1 (.seq (.reg [oq 14 (.idxS (.t 10)
  (.t 12) 16) [],oq 15 (.load (some 16) (.t 14)) [14],oq 7 (.new 36 [.int .u8 0,.int .u8 0,.int .u8 0,.int .u8 0,.int .u8 0,.int .u8 0,.int .u8 0,.int .u8 0,.int .u8 0,.int .u8 0,.int .u8 0,
 .int .u8 0,.int .u8 0,.int .u8 0,.int .u8 0,.int .u8 0]) [],ov (.store 16 (.t 7) (.t 15)) [15]]) (.reg [om 16 (.t 5) [5],oq 17 (.slcA 16 1 (.t 7) none none) [7],oq 18 (.b2s (.t 17))
  [17],oq 19 (.call 33 [.t 18]) [18],oq 20 (.app 5 1 1 (.t 16) (.t 19)) [16,19],om 5 (.t 20) [20]]))) (.reg [oq 21 (.bin .add (.t 12) (.c (.int .i64 1))) [12],om 12 (.t 21) [21]]))))
 ))) (.seq (.reg [om 22 (.t 5) [5],om 4 (.t 22) [22]]) (.ret))))⟩
theorem chk107 : chkF Tryd.prog 107 sf107 = true := by kernel_rfl

def sf109 : SF := ⟨8,[.t 2],.seq (.reg [om 2 (.c (.int .i64 0)) [2]]) (.seq (.cond (.c (.bool false)) (.seq (.reg [om 3 (.t 0) [0],oq 4 (.conv .u32 (.t 3)) [3],oq 5 (.callp 110 [.t 4])
  [4],om 2 (.t 5) [5]]) (.ret)) (.skip)) (.seq (.reg [om 6 (.t 0) [0],oq 7 (.callp 111 [.t 6]) [6],om 2 (.t 7) [7]]) (.ret)))⟩
theorem chk109 : chkF Tryd.prog 109 sf109 = true := by kernel_rfl

def sf111 : SF := ⟨25,[.t 2],.seq (.reg [om 2 (.c (.int .i64 0)) []]) (.seq (.seq (.reg [om 3 (.t 0) [],oq 4 (.bin .geq (.t 3) (.c (.int .u64 4294967296))) [3]]) (.cond (.t 4) (.seq (.reg [om 5 (.t 0)
  [0],oq 6 (.bin .shr (.t 5) (.c (.int .u64 32))) [5],om 0 (.t 6) [6]]) (.reg [om 2 (.c (.int .i64 32)) []])) (.skip))) (.seq (.seq (.reg [om 7 (.t 0) [],oq 8 (.bin .geq (.t 7) (.c (.int .u64 65536)
 )) [7]]) (.cond (.t 8) (.seq (.reg [om 9 (.t 0) [0],oq 10 (.bin .shr (.t 9) (.c (.int .u64 16))) [9],om 0 (.t 10) [10]]) (.reg [om 11 (.t 2) [2],oq 12 (.bin .add (.t 11) (.c (.int .i64 16)
 )) [11],om 2 (.t 12) [12]])) (.skip))) (.seq (.seq (.reg [om 13 (.t 0) [],oq 14 (.bin .geq (.t 13) (.c (.int .u64 256))) [13]]) (.cond (.t 14) (.seq (.reg [om 15 (.t 0) [0],oq 16 (.bin .shr (.t 15)
  (.c (.int .u64 8))) [15],om 0 (.t 16) [16]]) (.reg [om 17 (.t 2) [2],oq 18 (.bin .add (.t 17) (.c (.int .i64 8))) [17],om 2 (.t 18) [18]])) (.skip))) (.seq (.reg [om 19 (.t 2) [2],
 om 20 (.t 0) [0],oq 21 (.conv .u8 (.t 20)) [20],oq 22 (.idxT (.c (.str [0,1,2,2,3,3,3,3,4,4,4,4,4,4,4,4,5,5,5,5,5,5,5,5,5,5,5,5,5,5,5,5,6,6,6,6,6,6,6,6,6,6,6,6,6,6,6,6,6,6,6,6,6,6,6,
 6,6,6,6,6,6,6,6,6,7,7,7,7,7,7,7,7,7,7,7,7,7,7,7,7,7,7,7,7,7,7,7,7,7,7,7,7,7,7,7,7,7,7,7,7,7,7,7,7,7,7,7,7,7,7,7,7,7,7,7,7,7,7,7,7,7,7,7,7,7,7,7,7,8,8,8,8,8,8,8,8,8,8,8,8,8,8,8,8,8,8,
 8,8,8,8,8,8,8,8,8,8,8,8,8,8,8,8,8,8,8,8,8,8,8,8,8,8,8,8,8,8,8,8,8,8,8,8,8,8,8,8,8,8,8,8,8,8,8,8,8,8,8,8,8,8,8,8,8,8,8,8,8,8,8,8,8,8,8,8,8,8,8,8,8,8,8,8,8,8,8,8,8,8,8,8,8,8,8,8,8,8,8,
 8,8,8,8,8,8,8,8,8,8,8,8,8,8,8,8,8,8,8])) (.t 21)) [21],oq 23 (.conv .i64 (.t 22)) [22],oq 24 (.bin .add (.t 19) (.t 23)) [19,23],om 2 (.t 24) [24]]) (.ret)))))⟩
theorem chk111 : chkF Tryd.prog 111 sf111 = true := by kernel_rfl

end Go.Proofs.YtkfbkooobfepeaaDoor.Sf

/- Custodians' members as cells. -/
namespace Go.Proofs.YtkfbkooobfepeaaDoor
open Go Go.Sx Sf
set_option maxRecDepth 100000
set_option linter.unusedVariables false
variable {tS : List (Nat × List SV)}
structure Mb where
  name : List UInt8
  pub : List UInt8
  h : Int
  deriving DecidableEq
def Mb.sv (m : Mb) : List SV := .str m.name :: (bys m.pub ++ [.int .i64 m.h])
def mcs : List Mb → List SV
  | [] => []
  | m :: l => m.sv ++ mcs l
def Pub (l : List Mb) : Prop := ∀ m ∈ l, m.pub.length = 16
theorem Mb.sv_len {m : Mb} (h : m.pub.length = 16) : m.sv.length = 18 := by simp [Mb.sv, len_bytes, h]
theorem Mb.sv_flat (m : Mb) : SV.flatL m.sv = true := by
  unfold Mb.sv
  simp only [SV.flatL, SV.flat, Bool.true_and]
  exact SV.flatL_append (flat_bytes _) rfl
theorem flat_mcs : ∀ l, SV.flatL (mcs l) = true
  | [] => rfl
  | m :: l => SV.flatL_append m.sv_flat (flat_mcs l)
theorem ren_mcs (η : Nat → Nat × Nat) (l : List Mb) : SV.renL η (mcs l) = mcs l := SV.flatL_ren η _ (flat_mcs l)
theorem Pub.tail {m : Mb} {l : List Mb} (h : Pub (m :: l)) : Pub l := fun x hx => h x (List.mem_cons_of_mem _ hx)
theorem Pub.head {m : Mb} {l : List Mb} (h : Pub (m :: l)) : m.pub.length = 16 := h m List.mem_cons_self
theorem len_mcs : ∀ {l : List Mb}, Pub l → (mcs l).length = l.length * 18
  | [], _ => rfl
  | m :: l, h => by simp only [mcs, List.length_append, Mb.sv_len h.head, len_mcs h.tail, List.length_cons]; omega
theorem row_mcs : ∀ {l : List Mb}, Pub l → ∀ {i : Nat} {m : Mb}, l[i]? = some m → ∃ r, (mcs l).drop (i * 18) = m.sv ++ r
  | x :: l, h, 0, m, hm => by simp at hm; subst hm; exact ⟨mcs l, by simp [mcs]⟩
  | x :: l, h, i + 1, m, hm => by
    obtain ⟨r, hr⟩ := row_mcs h.tail (by simpa using hm)
    refine ⟨r, ?_⟩
    rw [show (i + 1) * 18 = x.sv.length + i * 18 by rw [Mb.sv_len h.head]; omega, ← List.drop_drop]
    simp only [mcs, List.drop_left']
    exact hr
  | [], _, _, _, hm => by simp at hm
theorem take_row {l : List Mb} (h : Pub l) {i : Nat} {m : Mb} (hm : l[i]? = some m) : List.take 18 (List.drop (i * 18) (mcs l)) = m.sv := by
  obtain ⟨r, hr⟩ := row_mcs h hm
  rw [hr]
  exact List.take_left' (Mb.sv_len (h m (List.mem_of_getElem? hm)))
theorem cell_row {l : List Mb} (h : Pub l) {i : Nat} {m : Mb} (hm : l[i]? = some m) {k : Nat} (hk : k < 18) : (mcs l)[i * 18 + k]? = m.sv[k]? := by
  obtain ⟨r, hr⟩ := row_mcs h hm
  rw [← List.getElem?_drop, hr, List.getElem?_append_left (by rw [Mb.sv_len (h m (List.mem_of_getElem? hm))]; exact hk)]
theorem mb0 (m : Mb) : m.sv[0]? = some (.str m.name) := (rfl)
theorem mb17 {m : Mb} (h : m.pub.length = 16) : m.sv[17]? = some (.int .i64 m.h) := by
  unfold Mb.sv
  rw [List.getElem?_cons_succ, List.getElem?_append_right (by rw [len_bytes]; omega), len_bytes, h]; rfl
theorem mbpub {m : Mb} (h : m.pub.length = 16) : List.take 16 (List.drop 1 m.sv) = bys m.pub := by
  unfold Mb.sv
  rw [List.drop_one, List.tail_cons]
  exact List.take_left' (by rw [len_bytes, h])

def unM : Nat → List SV → Option (List Mb)
  | _, [] => some []
  | f + 1, .str s :: r => match unB (r.take 16), r.drop 16 with
    | some p, .int .i64 h :: r' => if p.length = 16 then (match unM f r' with
      | some l => some (⟨s, p, h⟩ :: l)
      | none => none) else none
    | _, _ => none
  | _, _ => none
theorem unM_mcs : ∀ {l : List Mb} {f : Nat}, Pub l → l.length ≤ f → unM f (mcs l) = some l
  | [], f, _, _ => by cases f <;> rfl
  | m :: l, 0, _, h => by simp at h
  | m :: l, f + 1, h, hf => by
    have h16 := h.head
    have ih := unM_mcs (l := l) (f := f) h.tail (by simpa using hf)
    simp only [mcs, Mb.sv, List.cons_append, List.append_assoc, unM]
    rw [List.take_left' (by rw [len_bytes, h16]), List.drop_left' (by rw [len_bytes, h16]), unB_bytes]
    simp only [List.nil_append, h16, if_true, ih]
theorem unM_some : ∀ {f : Nat} {cells : List SV} {l : List Mb}, unM f cells = some l → cells = mcs l ∧ Pub l
  | f, [], l, h => by
    cases f <;> (simp only [unM] at h; cases h; exact ⟨rfl, by simp [Pub]⟩)
  | 0, x :: r, l, h => by simp [unM] at h
  | f + 1, x :: r, l, h => by
    cases x <;> simp only [unM] at h <;> first | cases h | skip
    rename_i s
    split at h
    · rename_i p hh r' hp hd
      split at h
      · rename_i h16
        split at h
        · rename_i l' hl
          cases h
          obtain ⟨e, hP⟩ := unM_some hl
          subst e
          refine ⟨?_, ?_⟩
          · have e2 := unB_some hp
            simp only [mcs, Mb.sv, List.cons_append, List.append_assoc, List.nil_append]
            rw [← e2, ← hd, List.take_append_drop]
          · intro m hm
            rcases List.mem_cons.1 hm with rfl | hm
            · exact h16
            · exact hP m hm
        · cases h
      · cases h
    · cases h

theorem eqPat_bys : ∀ (d d' : List UInt8) (ps : List Tag) (l l' : List SV) (b : Bool), d.length = d'.length → eqPat ps l l' = some b →
    eqPat (List.replicate d.length (.i .u8) ++ ps) (bys d ++ l) (bys d' ++ l') = some (d == d' && b)
  | [], [], ps, l, l', b, _, h => by simpa [bys] using h
  | x :: d, y :: d', ps, l, l', b, hl, h => by
    have ih := eqPat_bys d d' ps l l' b (by simpa using hl) h
    have e1 : eqTag (.i .u8) (SV.byte x) (SV.byte y) = some (x == y) := by
      simp only [eqTag, SV.byte, and_self, if_true]
      congr 1
      rw [Bool.eq_iff_iff]
      simp only [beq_iff_eq]
      constructor
      · intro h; exact UInt8.toNat_inj.1 (by omega)
      · rintro rfl; rfl
    simp only [List.length_cons, List.replicate_succ, List.cons_append, bys, List.map_cons, eqPat, e1]
    rw [show List.map SV.byte d = bys d from rfl, show List.map SV.byte d' = bys d' from rfl, ih]
    simp [Bool.and_assoc]
  | [], _ :: _, _, _, _, _, hl, _ => by simp at hl
  | _ :: _, [], _, _, _, _, hl, _ => by simp at hl

def fewB (l : List Mb) : Bool := (l.all fun m => decide (m.name.length ≤ 50)) && decide (l.length ≤ 20)
theorem f8 (e n : Int) (l : List Mb) (hP : Pub l) (hl : l.length ≤ 9223372036854775807) (cap : Option Nat) :
    Fun Tryd.prog tS 8 [.agg [.int .i64 e, .int .i64 n, .slc 0 0 18 l.length cap]] [(0, ⟨.view, mcs l⟩)] 1 (.bool (fewB l)) [] 1 := by
  refine fun_any none cF cF_ok chk8 (show 1 ≤ 23 by decide) (by decide) ?_
  unfold sf8 om oq
  simp (config := { maxSteps := 1000000 }) only [reduceCtorEq, Nat.reduceEqDiff, Nat.reduceAdd, eq_self, frOf, ↓reduceIte, Opd.ev, Sx.get, put, putO, del, dels, SV.cells?, BB, ↓PB]
  rw [den_loop]
  refine den_inv cF_ok (σ := Nat) (fun i => [(3, .int .i64 (i : Int)), (1, .ptr 1 0)])
    (fun i => [(1, ⟨.own 24, [.int .i64 e, .int .i64 n, .slc 0 0 18 l.length cap]⟩), (0, ⟨.view, mcs l⟩)]) (fun _ => 2)
    (fun i => i ≤ l.length ∧ (fewB l = ((l.drop i).all (fun m => decide (m.name.length ≤ 50)) && decide (l.length ≤ 20)))) (fun i => l.length - i) 0 ?_ ⟨Nat.zero_le _, rfl⟩ ?_
  · exact ⟨[(0, 0), (1, 0)], by simp [ren_mcs, EntM, compat, apartM, keysBelow, eta, idHs, rd, SV.ren, SV.renL, Nat.reduceAdd, Nat.reduceLeDiff, ↓reduceIte, Kind.isOwn, exists_eq_left', ne_eq, implies_true, forall_const, forall_eq, BB], by simp [frEnt, geto, eta, SV.ren, Nat.reduceAdd, Nat.reduceEqDiff, Nat.reduceLeDiff, ↓reduceIte, BB]⟩
  · rintro i ⟨hi, hf⟩
    have hlen := len_mcs hP
    by_cases h : i < l.length
    · have c1 : (i : Int) < (l.length : Int) := by omega
      have c2 : (0 : Int) ≤ (i : Int) := by omega
      have wi : IntKind.i64.wrap ((i : Int) + 1) = ((i + 1 : Nat) : Int) := by rw [wrap64_eq (by omega) (by omega)]; omega
      have q1 : i * 18 < l.length * 18 := by omega
      obtain ⟨m, hm⟩ : ∃ m, l[i]? = some m := ⟨_, List.getElem?_eq_getElem h⟩
      have hd : l.drop i = m :: l.drop (i + 1) := by
        rw [List.drop_eq_getElem_cons h]
        rw [List.getElem?_eq_getElem h] at hm; cases hm; rfl
      rw [hd, List.all_cons] at hf
      have g0 : (mcs l)[i * 18]? = some (.str m.name) := cell_row hP hm (k := 0) (by decide)
      by_cases hn : m.name.length > 50
      · have d1 : (m.name.length : Int) > 50 := by omega
        have d2 : decide (m.name.length ≤ 50) = false := decide_eq_false (by omega)
        rw [d2, Bool.false_and, Bool.false_and] at hf
        simp (config := { maxSteps := 1000000 }) only [c1, c2, q1, hlen, g0, d1, hf, reduceCtorEq, Nat.reduceEqDiff, eq_self, ↓reduceIte, ↓binI, ↓evRes, Opd.ev, Sx.get, put, putO, del, dels, rd, retOf, SV.ren, BB, ↓PB]
        exact ⟨[(0, 0)], rfl, by simp [compat, apartM, keysBelow, idHs, BB]⟩
      · have d1 : ¬ (m.name.length : Int) > 50 := by omega
        have d2 : decide (m.name.length ≤ 50) = true := decide_eq_true (by omega)
        rw [d2, Bool.true_and] at hf
        simp (config := { maxSteps := 1000000 }) only [c1, c2, wi, q1, hlen, g0, d1, reduceCtorEq, Nat.reduceEqDiff, eq_self, ↓reduceIte, ↓binI, Opd.ev, Sx.get, put, putO, del, dels, rd, BB, ↓PB]
        exact ⟨i + 1, ⟨[(0, 0), (1, 0)], by simp [ren_mcs, EntM, compat, apartM, keysBelow, eta, idHs, rd, SV.ren, SV.renL, Nat.reduceAdd, Nat.reduceLeDiff, ↓reduceIte, Kind.isOwn, exists_eq_left', ne_eq, implies_true, forall_const, forall_eq, BB], by simp [frEnt, geto, eta, SV.ren, Nat.reduceAdd, Nat.reduceEqDiff, Nat.reduceLeDiff, ↓reduceIte, BB]⟩, ⟨by omega, hf⟩, by omega⟩
    · obtain rfl : i = l.length := by omega
      have c1 : ¬ (l.length : Int) < (l.length : Int) := by omega
      have hf : fewB l = decide ((l.length : Int) ≤ 20) := by
        rw [hf, List.drop_length, List.all_nil, Bool.true_and]
        by_cases h20 : l.length ≤ 20
        · rw [decide_eq_true h20, decide_eq_true (by omega)]
        · rw [decide_eq_false h20, decide_eq_false (by omega)]
      simp (config := { maxSteps := 1000000 }) only [c1, hf, Nat.reduceEqDiff, eq_self, ↓reduceIte, ↓binI, ↓evRes, Opd.ev, Sx.get, put, putO, del, dels, rd, retOf, SV.ren, BB, ↓PB]
      exact ⟨[(0, 0)], rfl, by simp [compat, apartM, keysBelow, idHs, BB]⟩
def gFew : GS
  | [.agg [.int .i64 _, .int .i64 _, .slc 0 0 18 len _]], [(0, ⟨.view, cells⟩)] => match unM cells.length cells with
    | some l => if len = l.length then (match Nat.ble l.length 9223372036854775807 with
      | true => some (.bool (fewB l), [], 1)
      | false => none) else none
    | none => none
  | [.agg [.int .i64 _, .int .i64 _, .val (.slice none 0 0)]], [] => some (.bool true, [], 0)
  | _, _ => none
theorem f8n (e n : Int) : Fun Tryd.prog tS 8 [.agg [.int .i64 e, .int .i64 n, .val (.slice none 0 0)]] [] 0 (.bool true) [] 0 := by
  refine fun_any (some 2) cF cF_ok chk8 (show 1 ≤ 23 by decide) (by decide) ?_
  unfold sf8 om oq
  simp (config := { maxSteps := 1000000 }) only [reduceCtorEq, Nat.reduceEqDiff, Int.reduceLT, Int.reduceLE, eq_self, frOf, ↓reduceIte, ↓binI, ↓evRes, Opd.ev, Sx.get, put, putO, del, dels, rd, SV.cells?, retOf, SV.ren, BB, ↓PB]
  exact ⟨[], rfl, by simp [compat, apartM, keysBelow, idHs, List.take_nil, and_self]⟩
theorem gFew_ok : FunS Tryd.prog tS 8 gFew := by
  intro a0 m0 r m1 n1 h
  unfold gFew at h
  split at h
  · split at h
    · rename_i l hl
      split at h
      · split at h
        · rename_i he _ hb
          cases h
          subst he
          obtain ⟨rfl, hP⟩ := unM_some hl
          exact ⟨f8 _ _ l hP (Nat.le_of_ble_eq_true hb) _, by simp [freshB]⟩
        · cases h
      · cases h
    · cases h
  · cases h; exact ⟨f8n _ _, by simp [freshB]⟩
  · cases h
end Go.Proofs.YtkfbkooobfepeaaDoor

/- Valid of package custodian. -/
namespace Go.Proofs.YtkfbkooobfepeaaDoor
open Go Go.Sx Sf
set_option maxRecDepth 100000
set_option linter.unusedVariables false
variable {tS : List (Nat × List SV)}
def okM (m : Mb) : Bool := !(decide (m.name.length < 1) || decide (m.name.length > 12) || decide (m.h < 0) || decide (m.h > 6))
end Go.Proofs.YtkfbkooobfepeaaDoor

/- Index and Kept of members. -/
namespace Go.Proofs.YtkfbkooobfepeaaDoor
open Go Go.Sx Sf
set_option maxRecDepth 100000
set_option linter.unusedVariables false
variable {tS : List (Nat × List SV)}
def eqM (a b : Mb) : Bool := a.name == b.name && (a.pub == b.pub && (a.h == b.h && true))
theorem eqM_iff {a b : Mb} : eqM a b = true ↔ a = b := by
  obtain ⟨n, p, h⟩ := a
  obtain ⟨n', p', h'⟩ := b
  simp only [eqM, Bool.and_eq_true, beq_iff_eq, and_true, Mb.mk.injEq]
theorem nlS_z {i s k : Nat} (h : k = 0) : nlS i s k = .val (.slice none 0 0) := by subst h; rfl
theorem nlM_z {i k : Nat} {e : TypeId} {cells : List SV} {m : Mem} (h : k = 0) : nlM i e cells m k = m := by subst h; rfl
theorem nlN_z {i k : Nat} (h : k = 0) : nlN i k = i := by subst h; rfl
theorem nlS_p {i s k : Nat} (h : 0 < k) : nlS i s k = .slc i 0 s k none := by cases k with | zero => omega | succ k => rfl
theorem nlM_p {i k : Nat} {e : TypeId} {cells : List SV} {m : Mem} (h : 0 < k) : nlM i e cells m k = (i, ⟨.own e, cells⟩) :: m := by cases k with | zero => omega | succ k => rfl
theorem nlN_p {i k : Nat} (h : 0 < k) : nlN i k = i + 1 := by cases k with | zero => omega | succ k => rfl
end Go.Proofs.YtkfbkooobfepeaaDoor

/- One-time signatures: the digits of a digest. -/
namespace Go.Proofs.YtkfbkooobfepeaaDoor
open Go Go.Sx Sf
set_option maxRecDepth 100000
set_option linter.unusedVariables false
variable {tS : List (Nat × List SV)}
def dgN (d : List UInt8) (i : Nat) : Nat := (d.getD (i / 2) 0).toNat / (if i % 2 = 0 then 16 else 1) % 16
def dgL (d : List UInt8) (i : Nat) : List Int := (List.range i).map fun j => (dgN d j : Int)
def sumN (d : List UInt8) : Nat → Nat
  | 0 => 0
  | i + 1 => sumN d i + (15 - dgN d i)
theorem dgN_lt (d : List UInt8) (i : Nat) : dgN d i ≤ 15 := by unfold dgN; omega
theorem sumN_le (d : List UInt8) : ∀ i, sumN d i ≤ 15 * i
  | 0 => Nat.le_refl _
  | i + 1 => by have := sumN_le d i; simp only [sumN]; omega
theorem dgL_len (d : List UInt8) (i : Nat) : (dgL d i).length = i := by simp [dgL]
theorem dgL_step (d : List UInt8) (i : Nat) : dgL d i ++ [(dgN d i : Int)] = dgL d (i + 1) := by
  unfold dgL
  rw [List.range_succ, List.map_append]; rfl
def digS (d : List UInt8) : List Int := dgL d 32 ++ [((sumN d 32 / 256 % 16 : Nat) : Int), ((sumN d 32 / 16 % 16 : Nat) : Int), ((sumN d 32 % 16 : Nat) : Int)]
theorem digS_len (d : List UInt8) : (digS d).length = 35 := by simp [digS, dgL_len]
theorem digS_rng (d : List UInt8) (k : Nat) (hk : k < 35) : ∃ t : Nat, t ≤ 15 ∧ (digS d)[k]? = some (t : Int) := by
  unfold digS
  by_cases h : k < 32
  · refine ⟨dgN d k, dgN_lt d k, ?_⟩
    rw [List.getElem?_append_left (by rw [dgL_len]; exact h)]
    simp [dgL, h]
  · rw [List.getElem?_append_right (by rw [dgL_len]; omega), dgL_len]
    have : k = 32 ∨ k = 33 ∨ k = 34 := by omega
    rcases this with rfl | rfl | rfl
    · exact ⟨sumN d 32 / 256 % 16, by omega, rfl⟩
    · exact ⟨sumN d 32 / 16 % 16, by omega, rfl⟩
    · exact ⟨sumN d 32 % 16, by omega, rfl⟩
def dC (d : List UInt8) (i : Nat) : List SV := ints (dgL d i) ++ List.replicate (35 - i) (.int .i64 0)
theorem dC_len {d : List UInt8} {i : Nat} (h : i ≤ 35) : (dC d i).length = 35 := by simp [dC, len_ints, dgL_len]; omega
theorem dC_put {d : List UInt8} {i : Nat} (h : i < 32) : splice (dC d i) i [.int .i64 (dgN d i : Int)] = dC d (i + 1) := by
  unfold dC
  rw [show (35 - i) = (35 - (i + 1)) + 1 by omega, List.replicate_succ]
  have := splice_app (a := ints (dgL d i)) (b := [.int .i64 0]) (c := List.replicate (35 - (i + 1)) (.int .i64 0)) (k := i) (d := [.int .i64 (dgN d i : Int)]) (by simp [len_ints, dgL_len]) rfl
  simp only [List.cons_append, List.nil_append] at this
  rw [this, ← dgL_step]
  simp [ints]
theorem dC_get {d : List UInt8} {i : Nat} (h : i < 32) : (dC d (i + 1))[i]? = some (.int .i64 (dgN d i : Int)) := by
  unfold dC
  rw [List.getElem?_append_left (by simp [len_ints, dgL_len])]
  simp [ints, dgL]
theorem dC_flat {d : List UInt8} {i : Nat} : SV.flatL (dC d i) = true := by
  unfold dC
  refine flatL_app (flat_ints _) ?_
  generalize 35 - i = k
  induction k with
  | zero => rfl
  | succ k ih => rw [List.replicate_succ]; simp only [SV.flatL, SV.flat, Bool.true_and]; exact ih
theorem dC_ren (η : Nat → Nat × Nat) (d : List UInt8) (i : Nat) : SV.renL η (dC d i) = dC d i := SV.flatL_ren η _ dC_flat
theorem dg_ev {x : UInt8} {r : Nat} (hr : r < 2) : Int.tmod (IntKind.i64.wrap ((x.toNat : Int).fdiv (2 ^ (min (4 - 4 * r) IntKind.u8.bits)))) 16 = ((x.toNat / (if r = 0 then 16 else 1) % 16 : Nat) : Int) := by
  have hx : x.toNat < 256 := x.toNat_lt
  have : r = 0 ∨ r = 1 := by omega
  rcases this with rfl | rfl
  · have e : ((x.toNat : Int).fdiv (2 ^ (min (4 - 4 * 0) IntKind.u8.bits))) = ((x.toNat / 16 : Nat) : Int) := (Int.ofNat_fdiv _ 16).symm
    rw [e, wrap64_eq (by omega) (by omega)]
    exact (Int.ofNat_tmod _ 16).symm
  · have e : ((x.toNat : Int).fdiv (2 ^ (min (4 - 4 * 1) IntKind.u8.bits))) = ((x.toNat / 1 : Nat) : Int) := (Int.ofNat_fdiv _ 1).symm
    rw [e, wrap64_eq (by omega) (by omega)]
    exact (Int.ofNat_tmod _ 16).symm
def dF (d : List UInt8) (x y z : Int) : List SV := ints (dgL d 32) ++ [.int .i64 x, .int .i64 y, .int .i64 z]
theorem dF_0 (d : List UInt8) : dC d 32 = dF d 0 0 0 := rfl
theorem dF_len (d : List UInt8) (x y z : Int) : (dF d x y z).length = 35 := by simp [dF, len_ints, dgL_len]
theorem dF_34 (d : List UInt8) (x y z v : Int) : splice (dF d x y z) 34 [.int .i64 v] = dF d x y v := by
  have := splice_app (a := ints (dgL d 32) ++ [.int .i64 x, .int .i64 y]) (b := [.int .i64 z]) (c := []) (k := 34) (d := [.int .i64 v]) (by simp [len_ints, dgL_len]) rfl
  simpa [dF] using this
theorem dF_33 (d : List UInt8) (x y z v : Int) : splice (dF d x y z) 33 [.int .i64 v] = dF d x v z := by
  have := splice_app (a := ints (dgL d 32) ++ [.int .i64 x]) (b := [.int .i64 y]) (c := [.int .i64 z]) (k := 33) (d := [.int .i64 v]) (by simp [len_ints, dgL_len]) rfl
  simpa [dF] using this
theorem dF_32 (d : List UInt8) (x y z v : Int) : splice (dF d x y z) 32 [.int .i64 v] = dF d v y z := by
  have := splice_app (a := ints (dgL d 32)) (b := [.int .i64 x]) (c := [.int .i64 y, .int .i64 z]) (k := 32) (d := [.int .i64 v]) (by simp [len_ints, dgL_len]) rfl
  simpa [dF] using this
theorem dF_all (d : List UInt8) : dF d ((sumN d 32 / 256 % 16 : Nat) : Int) ((sumN d 32 / 16 % 16 : Nat) : Int) ((sumN d 32 % 16 : Nat) : Int) = ints (digS d) := by
  simp [dF, digS, ints]
theorem tmod_n (n k : Nat) : Int.tmod (n : Int) (k : Int) = ((n % k : Nat) : Int) := (Int.ofNat_tmod n k).symm
theorem tdiv_n (n k : Nat) : Int.tdiv (n : Int) (k : Int) = ((n / k : Nat) : Int) := (Int.ofNat_tdiv n k).symm
set_option maxHeartbeats 4000000 in
theorem f77 (d : List UInt8) (hd : d.length = 16) : Fun Tryd.prog tS 77 [.agg (bys d)] [] 0 (.slc 0 0 1 35 (some 35)) [(0, ⟨.own 128, ints (digS d)⟩)] 1 := by
  refine fun_any none cF cF_ok chk77 (show 1 ≤ 41 by decide) (by decide) ?_
  unfold sf77 om oq ov
  have hl : (bys d).length = 16 := by rw [len_bytes, hd]
  simp (config := { maxSteps := 1000000 }) only [reduceCtorEq, Nat.reduceEqDiff, Nat.reduceAdd, eq_self, frOf, ↓reduceIte, Opd.ev, Sx.get, put, putO, del, dels, SV.cells?, BB, ↓PB]
  rw [den_loop]
  have rD : ∀ η, SV.renL η (bys d) = bys d := fun η => ren_bytes η d
  have rC : ∀ η i, SV.renL η (dC d i) = dC d i := fun η i => dC_ren η d i
  refine den_inv cF_ok (σ := Nat) (fun i => [(7, .int .i64 (i : Int)), (4, .int .i64 (sumN d i : Int)), (3, .ptr 1 0), (1, .ptr 0 0)]) (fun i => [(1, ⟨.own 128, dC d i⟩), (0, ⟨.own 36, bys d⟩)]) (fun _ => 2)
    (fun i => i ≤ 32) (fun i => 32 - i) 0 ?_ (Nat.zero_le _) ?_
  · exact ⟨[(0, 0), (1, 0)], by simp only [rD, rC, EntM, compat, apartM, keysBelow, eta, idHs, rd, Nat.reduceAdd, Nat.reduceSub, Nat.reduceLT, Nat.reduceLeDiff, ↓reduceIte, Kind.isOwn, exists_eq_left', ne_eq, implies_true, false_imp_iff, forall_const, forall_eq, BB] <;> rfl, by simp [sumN, frEnt, geto, eta, SV.ren, Nat.reduceAdd, Nat.reduceEqDiff, Nat.reduceLeDiff, ↓reduceIte, BB]⟩
  · intro i hi
    have hs := sumN_le d i
    have hdg := dgN_lt d i
    have lC := dC_len (d := d) (show i ≤ 35 by omega)
    have lC' := dC_len (d := d) (show i + 1 ≤ 35 by omega)
    by_cases h32 : i < 32
    · obtain ⟨x, hx⟩ : ∃ x, d[i / 2]? = some x := ⟨d[i / 2]'(by omega), by rw [List.getElem?_eq_getElem]⟩
      have gx := get_bysI hx
      have c1 : (i : Int) < 32 := by omega
      have c2 : (0 : Int) ≤ (i : Int) := by omega
      have c3 : (i : Int) < 35 := by omega
      have q1 : Int.tdiv (i : Int) 2 = ((i / 2 : Nat) : Int) := tdiv_n i 2
      have q2 : Int.tmod (i : Int) 2 = ((i % 2 : Nat) : Int) := tmod_n i 2
      have q3 : IntKind.i64.wrap ((i / 2 : Nat) : Int) = ((i / 2 : Nat) : Int) := wrap64_eq (by omega) (by omega)
      have q4 : (0 : Int) ≤ ((i / 2 : Nat) : Int) ∧ ((i / 2 : Nat) : Int) < 16 := by omega
      have v1 : IntKind.i64.wrap (4 * ((i % 2 : Nat) : Int)) = ((4 * (i % 2) : Nat) : Int) := by rw [wrap64_eq (by omega) (by omega)]; omega
      have v2 : IntKind.i64.wrap (4 - ((4 * (i % 2) : Nat) : Int)) = ((4 - 4 * (i % 2) : Nat) : Int) := by rw [wrap64_eq (by omega) (by omega)]; omega
      have v3 : (0 : Int) ≤ ((4 - 4 * (i % 2) : Nat) : Int) := by omega
      have v4 : IntKind.i64.wrap ((i : Int) + 1) = ((i + 1 : Nat) : Int) := by rw [wrap64_eq (by omega) (by omega)]; omega
      have ev : Int.tmod (IntKind.i64.wrap ((x.toNat : Int).fdiv (2 ^ (min (4 - 4 * (i % 2)) IntKind.u8.bits)))) 16 = (dgN d i : Int) := by
        rw [dg_ev (by omega)]
        unfold dgN
        rw [List.getD_eq_getElem?_getD, hx]; rfl
      have v5 : IntKind.i64.wrap (15 - (dgN d i : Int)) = ((15 - dgN d i : Nat) : Int) := by rw [wrap64_eq (by omega) (by omega)]; omega
      have v6 : IntKind.i64.wrap ((sumN d i : Int) + ((15 - dgN d i : Nat) : Int)) = (sumN d (i + 1) : Int) := by rw [wrap64_eq (by omega) (by omega)]; simp only [sumN]; omega
      have op := dC_put (d := d) h32
      have og := dC_get (d := d) h32
      simp (config := { maxSteps := 1000000 }) only [c1, c2, c3, q1, q2, q3, q4.1, q4.2, gx, v1, v2, v3, v4, ev, v5, v6, lC, op, og, reduceCtorEq, Nat.reduceEqDiff, Nat.reduceLeDiff, Int.reduceNe, eq_self, ↓reduceIte, ↓binI, Opd.ev, Sx.get, put, putO, del, dels, rd, upd, SV.cells?, SV.one, BB, ↓PB]
      exact ⟨by omega, i + 1, ⟨[(0, 0), (1, 0)], by simp only [rD, rC, EntM, compat, apartM, keysBelow, eta, idHs, rd, Nat.reduceAdd, Nat.reduceSub, Nat.reduceLT, Nat.reduceLeDiff, ↓reduceIte, Kind.isOwn, exists_eq_left', ne_eq, implies_true, false_imp_iff, forall_const, forall_eq, BB], by simp [frEnt, geto, eta, SV.ren, Nat.reduceAdd, Nat.reduceEqDiff, Nat.reduceLeDiff, ↓reduceIte, BB]⟩, by omega, by omega⟩
    · obtain rfl : i = 32 := by omega
      rw [dF_0]
      simp (config := { maxSteps := 1000000 }) only [Nat.reduceEqDiff, Int.reduceLT, eq_self, ↓reduceIte, ↓binI, Opd.ev, Sx.get, put, putO, del, dels, BB, ↓PB]
      rw [den_loop]
      refine den_unroll cF_ok (callT_point _ _) 4 ?_
      have w1 : Int.tmod (sumN d 32 : Int) 16 = ((sumN d 32 % 16 : Nat) : Int) := tmod_n (sumN d 32) 16
      have w2 : Int.tdiv (sumN d 32 : Int) 16 = ((sumN d 32 / 16 : Nat) : Int) := tdiv_n (sumN d 32) 16
      have w3 : Int.tmod ((sumN d 32 / 16 : Nat) : Int) 16 = ((sumN d 32 / 16 % 16 : Nat) : Int) := tmod_n (sumN d 32 / 16) 16
      have w4 : Int.tdiv ((sumN d 32 / 16 : Nat) : Int) 16 = ((sumN d 32 / 16 / 16 : Nat) : Int) := tdiv_n (sumN d 32 / 16) 16
      have w5 : Int.tmod ((sumN d 32 / 16 / 16 : Nat) : Int) 16 = ((sumN d 32 / 16 / 16 % 16 : Nat) : Int) := tmod_n (sumN d 32 / 16 / 16) 16
      have w6 : IntKind.i64.wrap ((sumN d 32 / 16 : Nat) : Int) = ((sumN d 32 / 16 : Nat) : Int) := wrap64_eq (by omega) (by omega)
      have w7 : IntKind.i64.wrap ((sumN d 32 / 16 / 16 : Nat) : Int) = ((sumN d 32 / 16 / 16 : Nat) : Int) := wrap64_eq (by omega) (by omega)
      simp (config := { maxSteps := 1000000 }) only [dF_len, dF_34, dF_33, dF_32, w1, w2, w3, w4, w5, w6, w7, Int.reduceGE, reduceCtorEq, Nat.reduceEqDiff, Nat.reduceAdd, Nat.reduceLeDiff, Int.reduceToNat, Int.reduceLT, Int.reduceLE, Int.reduceSub, Int.reduceNeg, Int.reduceNe, eq_self, ↓reduceIte, ↓binI, ↓evRes, Opd.ev, Sx.get, put, putO, del, dels, rd, upd, SV.cells?, SV.one, retOf, eta, SV.ren, BB, ↓PB]
      rw [show sumN d 32 / 16 / 16 = sumN d 32 / 256 by omega, dF_all]
      exact ⟨[(1, 0)], by simp [EntM, compat, apartM, keysBelow, eta, idHs, rd, ↓reduceIte, Kind.isOwn, exists_eq_left', ne_eq, implies_true, forall_const, BB], by simp [BB]⟩
set_option maxHeartbeats 4000000 in
theorem f100 (d : List UInt8) (hd : d.length = 16) : Fun Tryd.prog tS 100 [.agg (bys d)] [] 0 (.slc 0 0 1 35 none) [(0, ⟨.own 3, ints (digS d)⟩)] 1 := by
  refine fun_any none cF cF_ok chk100 (show 1 ≤ 43 by decide) (by decide) ?_
  unfold sf100 om oq
  have hl : (bys d).length = 16 := by rw [len_bytes, hd]
  simp (config := { maxSteps := 1000000 }) only [reduceCtorEq, Nat.reduceEqDiff, eq_self, frOf, ↓reduceIte, Opd.ev, Sx.get, put, putO, del, dels, SV.cells?, BB, ↓PB]
  rw [den_loop]
  have rD : ∀ η, SV.renL η (bys d) = bys d := fun η => ren_bytes η d
  refine den_inv cF_ok (σ := Nat) (fun i => [(5, .int .i64 (i : Int)), (4, .int .i64 (sumN d (2 * i) : Int)), (3, nlS 1 1 (2 * i)), (1, .ptr 0 0)]) (fun i => nlM 1 3 (ints (dgL d (2 * i))) [(0, ⟨.own 36, bys d⟩)] (2 * i)) (fun i => nlN 1 (2 * i))
    (fun i => i ≤ 16) (fun i => 16 - i) 0 ?_ (Nat.zero_le _) ?_
  · exact ⟨[(0, 0)], by simp only [Nat.mul_zero, rD, EntM, compat, apartM, keysBelow, eta, idHs, rd, Nat.reduceSub, Nat.reduceLT, Nat.reduceLeDiff, ↓reduceIte, Kind.isOwn, exists_eq_left', ne_eq, implies_true, false_imp_iff, forall_const, BB] <;> exact ⟨rfl, rfl⟩, by simp [sumN, frEnt, geto, eta, SV.ren, Nat.reduceEqDiff, ↓reduceIte, BB]⟩
  · intro i hi
    have hs := sumN_le d (2 * i)
    have hdg := dgN_lt d (2 * i)
    have hdg1 := dgN_lt d (2 * i + 1)
    by_cases h16 : i < 16
    · obtain ⟨x, hx⟩ : ∃ x, d[i]? = some x := ⟨d[i]'(by omega), by rw [List.getElem?_eq_getElem]⟩
      have gx := get_bysI hx
      have hxl : x.toNat < 256 := x.toNat_lt
      have c1 : (i : Int) < 16 := by omega
      have c2 : (0 : Int) ≤ (i : Int) := by omega
      have v4 : IntKind.i64.wrap ((i : Int) + 1) = ((i + 1 : Nat) : Int) := by rw [wrap64_eq (by omega) (by omega)]; omega
      have x1 : IntKind.i64.wrap (x.toNat : Int) = (x.toNat : Int) := wrap64_eq (by omega) (by omega)
      have x2 : Int.tdiv (x.toNat : Int) 16 = (dgN d (2 * i) : Int) := by
        rw [show Int.tdiv (x.toNat : Int) 16 = ((x.toNat / 16 : Nat) : Int) from tdiv_n x.toNat 16]
        unfold dgN
        rw [show 2 * i / 2 = i by omega, List.getD_eq_getElem?_getD, hx, if_pos (by omega)]
        simp only [Option.getD_some]
        omega
      have x3 : IntKind.i64.wrap (dgN d (2 * i) : Int) = (dgN d (2 * i) : Int) := wrap64_eq (by omega) (by omega)
      have x4 : Int.tmod (x.toNat : Int) 16 = (dgN d (2 * i + 1) : Int) := by
        rw [show Int.tmod (x.toNat : Int) 16 = ((x.toNat % 16 : Nat) : Int) from tmod_n x.toNat 16]
        unfold dgN
        rw [show (2 * i + 1) / 2 = i by omega, List.getD_eq_getElem?_getD, hx, if_neg (by omega)]
        simp only [Option.getD_some]
        omega
      have y1 : IntKind.i64.wrap ((sumN d (2 * i) : Int) + 30) = ((sumN d (2 * i) + 30 : Nat) : Int) := by rw [wrap64_eq (by omega) (by omega)]; omega
      have y2 : IntKind.i64.wrap (((sumN d (2 * i) + 30 : Nat) : Int) - (dgN d (2 * i) : Int)) = ((sumN d (2 * i) + 30 - dgN d (2 * i) : Nat) : Int) := by rw [wrap64_eq (by omega) (by omega)]; omega
      have y3 : IntKind.i64.wrap (((sumN d (2 * i) + 30 - dgN d (2 * i) : Nat) : Int) - (dgN d (2 * i + 1) : Int)) = (sumN d (2 * (i + 1)) : Int) := by
        rw [wrap64_eq (by omega) (by omega), show 2 * (i + 1) = 2 * i + 1 + 1 by omega]; simp only [sumN]; omega
      have ap : ints (dgL d (2 * i)) ++ [.int .i64 (dgN d (2 * i) : Int), .int .i64 (dgN d (2 * i + 1) : Int)] = ints (dgL d (2 * (i + 1))) := by
        rw [show 2 * (i + 1) = 2 * i + 1 + 1 by omega, ← dgL_step, ← dgL_step]
        simp [ints]
      have tk : List.take (2 * i) (ints (dgL d (2 * i))) = ints (dgL d (2 * i)) := List.take_of_length_le (by rw [len_ints, dgL_len]; omega)
      have ln : (dgL d (2 * i)).length = 2 * i := dgL_len d _
      rcases Nat.eq_zero_or_pos i with h0 | h0
      · subst h0
        have ap0 : [SV.int .i64 (dgN d (2 * 0) : Int), SV.int .i64 (dgN d (2 * 0 + 1) : Int)] = ints (dgL d (2 * (0 + 1))) := ap
        rw [nlS_z rfl, nlM_z rfl, nlN_z rfl]
        simp (config := { maxSteps := 1000000 }) only [gx, x1, x2, x3, x4, y1, y2, y3, ap0, Nat.reduceEqDiff, Nat.reduceAdd, Nat.reduceMul, Nat.reduceLeDiff, Int.reduceToNat, Int.reduceLT, Int.reduceLE, Int.reduceAdd, Int.reduceNeg, Int.reduceNe, eq_self, ↓reduceIte, ↓binI, ↓fillE, Opd.ev, Sx.get, put, putO, del, dels, rd, splice, SV.cells?, SV.one, BB, ↓PB]
        rw [List.take_of_length_le (by rw [len_ints, dgL_len]; omega : (ints (dgL d 2)).length ≤ 2)]
        exact ⟨by rw [dgL_len]; omega, by omega, by omega, 1, ⟨[(0, 0), (2, 0)], by simp [rD, EntM, compat, apartM, keysBelow, eta, idHs, rd, Nat.reduceAdd, Nat.reduceLeDiff, ↓reduceIte, Kind.isOwn, exists_eq_left', ne_eq, implies_true, forall_const, reduceCtorEq, forall_eq, BB], by simp [frEnt, geto, eta, SV.ren, Nat.reduceAdd, Nat.reduceEqDiff, Nat.reduceLeDiff, ↓reduceIte, BB]⟩, by omega, by omega⟩
      · have hp : 0 < 2 * i := by omega
        rw [nlS_p hp, nlM_p hp, nlN_p hp]
        simp (config := { maxSteps := 1000000 }) only [c1, c2, gx, v4, x1, x2, x3, x4, y1, y2, y3, ap, tk, ln, reduceCtorEq, Nat.reduceEqDiff, Nat.reduceAdd, Nat.reduceLeDiff, Int.reduceNe, eq_self, ↓reduceIte, ↓binI, ↓fillE, Opd.ev, Sx.get, put, putO, del, dels, rd, rm, splice, SV.cells?, SV.one, BB, ↓PB]
        have hp2 : 0 < 2 * (i + 1) := by omega
        refine ⟨by omega, by omega, i + 1, ?_, by omega, by omega⟩
        rw [nlS_p hp2, nlM_p hp2, nlN_p hp2]
        exact ⟨[(0, 0), (3, 0)], by simp [rD, EntM, compat, apartM, keysBelow, eta, idHs, rd, Nat.reduceAdd, Nat.reduceLeDiff, ↓reduceIte, Kind.isOwn, exists_eq_left', ne_eq, implies_true, forall_const, reduceCtorEq, forall_eq, BB], by simp [Nat.mul_add, frEnt, geto, eta, SV.ren, Nat.reduceAdd, Nat.reduceEqDiff, Nat.reduceLeDiff, ↓reduceIte, BB]⟩
    · obtain rfl : i = 16 := by omega
      have hs := sumN_le d 32
      have w1 : Int.tmod (sumN d 32 : Int) 16 = ((sumN d 32 % 16 : Nat) : Int) := tmod_n (sumN d 32) 16
      have w2 : Int.tdiv (sumN d 32 : Int) 16 = ((sumN d 32 / 16 : Nat) : Int) := tdiv_n (sumN d 32) 16
      have w3 : Int.tmod ((sumN d 32 / 16 : Nat) : Int) 16 = ((sumN d 32 / 16 % 16 : Nat) : Int) := tmod_n (sumN d 32 / 16) 16
      have w6 : IntKind.i64.wrap ((sumN d 32 / 16 : Nat) : Int) = ((sumN d 32 / 16 : Nat) : Int) := wrap64_eq (by omega) (by omega)
      have w4 : Int.tdiv (sumN d 32 : Int) 256 = ((sumN d 32 / 256 % 16 : Nat) : Int) := by
        rw [show Int.tdiv (sumN d 32 : Int) 256 = ((sumN d 32 / 256 : Nat) : Int) from tdiv_n (sumN d 32) 256]; omega
      have w5 : IntKind.i64.wrap ((sumN d 32 / 256 % 16 : Nat) : Int) = ((sumN d 32 / 256 % 16 : Nat) : Int) := wrap64_eq (by omega) (by omega)
      have tk : List.take 32 (ints (dgL d 32)) = ints (dgL d 32) := List.take_of_length_le (by rw [len_ints, dgL_len]; omega)
      have ap : ints (dgL d 32) ++ [.int .i64 ((sumN d 32 / 256 % 16 : Nat) : Int), .int .i64 ((sumN d 32 / 16 % 16 : Nat) : Int), .int .i64 ((sumN d 32 % 16 : Nat) : Int)] = ints (digS d) := by simp [digS, ints]
      have hp : 0 < 2 * 16 := by decide
      rw [nlS_p hp, nlM_p hp, nlN_p hp]
      simp (config := { maxSteps := 1000000 }) only [w1, w2, w3, w4, w5, w6, ap, tk, reduceCtorEq, Nat.reduceEqDiff, Nat.reduceAdd, Nat.reduceMul, Nat.reduceLeDiff, Int.reduceLT, Int.reduceNe, eq_self, ↓reduceIte, ↓binI, ↓fillE, ↓evRes, Opd.ev, Sx.get, put, putO, del, dels, rd, rm, splice, SV.cells?, SV.one, retOf, eta, SV.ren, BB, ↓PB]
      exact ⟨by omega, by omega, by rw [dgL_len]; omega, [(3, 0)], by simp [EntM, compat, apartM, keysBelow, eta, idHs, rd, ↓reduceIte, Kind.isOwn, exists_eq_left', ne_eq, implies_true, forall_const, BB], by simp [BB]⟩
def gDigs : GS
  | [.agg cells], [] => match unB cells with
    | some d => if d.length = 16 then some (.slc 0 0 1 35 (some 35), [(0, ⟨.own 128, ints (digS d)⟩)], 1) else none
    | none => none
  | _, _ => none
theorem gDigs_ok : FunS Tryd.prog tS 77 gDigs := by
  intro a0 m0 r m1 n1 h
  unfold gDigs at h
  split at h
  · split at h
    · rename_i d hd
      split at h
      · rename_i hc
        cases h
        rw [unB_some hd]
        exact ⟨f77 d hc, by simp [freshB]⟩
      · cases h
    · cases h
  · cases h
def gDigsR : GS
  | [.agg cells], [] => match unB cells with
    | some d => if d.length = 16 then some (.slc 0 0 1 35 none, [(0, ⟨.own 3, ints (digS d)⟩)], 1) else none
    | none => none
  | _, _ => none
theorem gDigsR_ok : FunS Tryd.prog tS 100 gDigsR := by
  intro a0 m0 r m1 n1 h
  unfold gDigsR at h
  split at h
  · split at h
    · rename_i d hd
      split at h
      · rename_i hc
        cases h
        rw [unB_some hd]
        exact ⟨f100 d hc, by simp [freshB]⟩
      · cases h
    · cases h
  · cases h
end Go.Proofs.YtkfbkooobfepeaaDoor

/- The reference's encoding of an integer. -/
namespace Go.Proofs.YtkfbkooobfepeaaDoor
open Go Go.Sx Sf
set_option maxRecDepth 100000
set_option linter.unusedVariables false
variable {tS : List (Nat × List SV)}
theorem wrap64_le {x : Int} (h : 0 ≤ x) : IntKind.i64.wrap x ≤ x ∧ IntKind.i64.wrap x ≤ 9223372036854775807 := by
  simp only [IntKind.wrap, IntKind.bits, IntKind.signed]
  simp
  omega
def nxtR (m : Int) : Int := IntKind.i64.wrap (m.tdiv 256)
theorem nxtR_lt {m : Int} (h : m > 0) : (nxtR m).toNat < m.toNat ∧ nxtR m ≤ 9223372036854775807 := by
  have h1 : 0 ≤ m.tdiv 256 := Int.tdiv_nonneg (by omega) (by omega)
  have h2 : m.tdiv 256 < m := by rw [Int.tdiv_eq_ediv_of_nonneg (by omega)]; omega
  have := wrap64_le h1
  unfold nxtR
  omega
def digs : Nat → Int → List UInt8
  | 0, _ => []
  | f + 1, m => if m > 0 then wrapB (m.tmod 256) :: digs f (nxtR m) else []
theorem digs_fuel : ∀ (f : Nat) (m : Int), m.toNat ≤ f → digs f m = digs m.toNat m
  | 0, m, h => by
    have : m.toNat = 0 := by omega
    rw [this]
  | f + 1, m, h => by
    by_cases hm : m > 0
    · have h1 := nxtR_lt hm
      obtain ⟨j, hj⟩ : ∃ j, m.toNat = j + 1 := ⟨m.toNat - 1, by omega⟩
      rw [hj]
      simp only [digs, hm, if_true]
      rw [digs_fuel f (nxtR m) (by omega), digs_fuel j (nxtR m) (by omega)]
    · have : m.toNat = 0 := by omega
      rw [this]
      simp only [digs, hm, if_false]
termination_by f => f
def dig (m : Int) : List UInt8 := digs m.toNat m
theorem dig_pos {m : Int} (h : m > 0) : dig m = wrapB (m.tmod 256) :: dig (nxtR m) := by
  unfold dig
  obtain ⟨j, hj⟩ : ∃ j, m.toNat = j + 1 := ⟨m.toNat - 1, by omega⟩
  rw [hj]
  simp only [digs, h, if_true]
  rw [digs_fuel j _ (by have := nxtR_lt h; omega)]
theorem dig_neg {m : Int} (h : ¬ m > 0) : dig m = [] := by
  unfold dig
  have : m.toNat = 0 := by omega
  rw [this]; rfl
theorem dig_len : ∀ (j : Nat) (m : Int), m < 256 ^ j → (dig m).length ≤ j
  | 0, m, h => by rw [dig_neg (by simp at h; omega)]; simp
  | j + 1, m, h => by
    by_cases hm : m > 0
    · rw [dig_pos hm]
      have h1 : 0 ≤ m.tdiv 256 := Int.tdiv_nonneg (by omega) (by omega)
      have h2 : m.tdiv 256 < 256 ^ j := by
        rw [Int.tdiv_eq_ediv_of_nonneg (by omega)]
        rw [Int.pow_succ] at h
        omega
      have := (wrap64_le h1).1
      have := dig_len j (nxtR m) (by unfold nxtR; omega)
      simp only [List.length_cons]; omega
    · rw [dig_neg hm]; simp
theorem dig_len9 (m : Int) : (dig m).length ≤ 9 := by
  by_cases hm : m > 0
  · rw [dig_pos hm]
    have := dig_len 8 (nxtR m) (by have := nxtR_lt hm; have : (256 : Int) ^ 8 = 18446744073709551616 := by decide
                                   omega)
    simp only [List.length_cons]; omega
  · rw [dig_neg hm]; simp

def magR (n : Int) : Int := if n < 0 then IntKind.i64.wrap (-1 - n) else n
def hdR (n : Int) : UInt8 := if n ≥ 0 then wrapB (IntKind.i64.wrap (128 + ((dig (magR n)).length : Int))) else wrapB (IntKind.i64.wrap (127 - ((dig (magR n)).length : Int)))
def turnR (n : Int) (d : UInt8) : UInt8 := if n < 0 then wrapB (255 - (d.toNat : Int)) else d
def encR (n : Int) : List UInt8 := hdR n :: (dig (magR n)).reverse.map (turnR n)
theorem encR_len (n : Int) : (encR n).length ≤ 10 := by
  have := dig_len9 (magR n)
  simp [encR]; omega

set_option maxHeartbeats 4000000 in
theorem f38 (n : Int) : Fun Tryd.prog tS 38 [.int .i64 n] [] 0 (.slc 0 0 1 (encR n).length none) [(0, ⟨.own 5, bys (encR n)⟩)] 1 := by
  refine fun_any none cF cF_ok chk38 (show 1 ≤ 59 by decide) (Nat.zero_le _) ?_
  unfold sf38 om oq
  have hlen := encR_len n
  have hd9 := dig_len9 (magR n)
  have key : (IntKind.i64.wrap (-1 - n) = magR n ∧ n < 0) ∨ (magR n = n ∧ ¬ n < 0) := by
    unfold magR
    by_cases hn : n < 0
    · left; rw [if_pos hn]; exact ⟨rfl, hn⟩
    · right; rw [if_neg hn]; exact ⟨rfl, hn⟩
  rcases key with ⟨k1, hn⟩ | ⟨k1, hn⟩
  all_goals
    simp (config := { maxSteps := 1000000 }) only [hn, reduceCtorEq, Nat.reduceEqDiff, Int.reduceNeg, eq_self, frOf, ↓reduceIte, ↓binI, Opd.ev, Sx.get, put, putO, del, dels, BB, ↓PB]
    rw [den_loop]
    refine den_inv cF_ok (σ := Int × List UInt8) (fun s => [(4, nlS 0 1 s.2.length), (3, .int .i64 s.1), (0, .int .i64 n)]) (fun s => nlM 0 5 (bys s.2) [] s.2.length) (fun s => nlN 0 s.2.length)
      (fun s => s.2 ++ dig s.1 = dig (magR n)) (fun s => s.1.toNat) (magR n, []) ⟨[], by simp [EntM, compat, apartM, keysBelow, idHs, BB], by simp [k1, frEnt, geto, SV.ren, Nat.reduceEqDiff, ↓reduceIte, reduceCtorEq, BB]⟩ rfl ?_
    rintro ⟨m, pre⟩ hpre
    simp only at hpre
    have hl := congrArg List.length hpre
    simp only [List.length_append] at hl
    by_cases hm : m > 0
    · rw [dig_pos hm, ← List.singleton_append, ← List.append_assoc] at hpre
      have hb := wrapB_sv (m.tmod 256)
      have hdec := (nxtR_lt hm).1
      cases pre with
      | nil =>
        simp (config := { maxSteps := 1000000 }) only [hm, reduceCtorEq, Nat.reduceEqDiff, Nat.reduceAdd, Int.reduceNe, eq_self, ↓reduceIte, ↓binI, ↓fillE, Opd.ev, Sx.get, put, putO, del, dels, rd, splice, SV.cells?, SV.one, BB, ↓PB]
        exact ⟨by omega, by omega, (nxtR m, _), ⟨[(1, 0)], by simp [hb, EntM, compat, apartM, keysBelow, eta, idHs, rd, ↓reduceIte, Kind.isOwn, exists_eq_left', ne_eq, implies_true, forall_const, BB], by simp [nxtR, frEnt, geto, eta, SV.ren, Nat.reduceEqDiff, ↓reduceIte, reduceCtorEq, BB]⟩, hpre, by simp only; omega⟩
      | cons c pre =>
        have h9 : pre.length ≤ 9 := by simp at hl; omega
        simp (config := { maxSteps := 1000000 }) only [hm, reduceCtorEq, Nat.reduceEqDiff, Nat.reduceAdd, Int.reduceNe, eq_self, ↓reduceIte, ↓binI, ↓fillE, Opd.ev, Sx.get, put, putO, del, dels, rd, rm, splice, SV.cells?, SV.one, BB, ↓PB]
        rw [hb, bytes_app1]
        exact ⟨by omega, by omega, (nxtR m, _), ⟨[(2, 0)], by simp [EntM, compat, apartM, keysBelow, eta, idHs, rd, ↓reduceIte, Kind.isOwn, exists_eq_left', ne_eq, implies_true, forall_const, BB], by simp [nxtR, frEnt, geto, eta, SV.ren, Nat.reduceEqDiff, ↓reduceIte, reduceCtorEq, BB]⟩, hpre, by simp only; omega⟩
    · rw [dig_neg hm, List.append_nil] at hpre
      subst hpre
      have key2 : encR n = hdR n :: (dig (magR n)).reverse.map (turnR n) := rfl
      generalize hds : dig (magR n) = ds at *
      have hh : hdR n = if n ≥ 0 then wrapB (IntKind.i64.wrap (128 + (ds.length : Int))) else wrapB (IntKind.i64.wrap (127 - (ds.length : Int))) := by unfold hdR; rw [hds]
      have hb1 := wrapB_sv (IntKind.i64.wrap (128 + (ds.length : Int)))
      have hb2 := wrapB_sv (IntKind.i64.wrap (127 - (ds.length : Int)))
      have w0 : IntKind.i64.wrap ((ds.length : Int) - 1) = (ds.length : Int) - 1 := wrap64_eq (by omega) (by omega)
      have hn2 : (n ≥ 0) = ¬ (n < 0) := by simp
      have hhd : SV.int .u8 (IntKind.u8.wrap (IntKind.i64.wrap (if n ≥ 0 then 128 + (ds.length : Int) else 127 - (ds.length : Int)))) = SV.byte (hdR n) := by
        rw [hh]
        by_cases hc : n ≥ 0
        · rw [if_pos hc, if_pos hc]; exact hb1
        · rw [if_neg hc, if_neg hc]; exact hb2
      simp only [hn2, hn, not_true_eq_false, not_false_eq_true, if_true, if_false] at hhd
      cases ds with
      | nil =>
        simp (config := { maxSteps := 1000000 }) only [hm, hn, hn2, reduceCtorEq, Nat.reduceEqDiff, Nat.reduceAdd, Int.reduceLE, Int.reduceAdd, Int.reduceSub, Int.reduceNeg, eq_self, ↓reduceIte, ↓binI, ↓fillE, Opd.ev, Sx.get, put, putO, del, dels, rd, splice, SV.cells?, SV.one, BB, ↓PB]
        simp only [List.length_nil, Int.natCast_zero, Int.add_zero, Int.sub_zero, wrap64_eq, Int.reduceNeg, Int.reduceLE] at hhd
        rw [den_loop]
        refine ⟨by omega, by omega, den_unroll cF_ok (callT_point _ _) 2 ?_⟩
        simp (config := { maxSteps := 1000000 }) only [Int.reduceGE, reduceCtorEq, Nat.reduceEqDiff, Int.reduceNeg, eq_self, ↓reduceIte, ↓binI, ↓evRes, Opd.ev, Sx.get, put, putO, del, dels, retOf, eta, SV.ren, BB, ↓PB]
        exact ⟨[(1, 0)], by simp [hhd, key2, EntM, compat, apartM, keysBelow, eta, idHs, rd, ↓reduceIte, Kind.isOwn, exists_eq_left', ne_eq, implies_true, forall_const, BB], by simp [key2, BB]⟩
      | cons d ds =>
        simp only [List.length_cons] at hhd w0 hd9
        simp (config := { maxSteps := 1000000 }) only [hm, hn, hn2, w0, reduceCtorEq, Nat.reduceEqDiff, Nat.reduceAdd, eq_self, ↓reduceIte, ↓binI, ↓fillE, Opd.ev, Sx.get, put, putO, del, dels, rd, splice, SV.cells?, SV.one, BB, ↓PB]
        refine ⟨by omega, by omega, ?_⟩
        rw [den_loop]
        refine den_inv cF_ok (σ := Nat × List UInt8) (fun s => [(7, .int .i64 ((s.1 : Int) - 1)), (6, .slc 1 0 1 s.2.length none), (4, .slc 0 0 1 (ds.length + 1) none), (0, .int .i64 n)])
          (fun s => [(1, ⟨.own 5, bys s.2⟩), (0, ⟨.own 5, bys (d :: ds)⟩)]) (fun _ => 2) (fun s => s.1 ≤ ds.length + 1 ∧ s.2 ++ ((d :: ds).take s.1).reverse.map (turnR n) = encR n) (fun s => s.1) (ds.length + 1, [hdR n]) ?_ ⟨Nat.le_refl _, ?_⟩ ?_
        · exact ⟨[(0, 0), (2, 0)], by simp only [hhd, EntM, compat, apartM, keysBelow, eta, idHs, rd, Nat.reduceAdd, Nat.reduceSub, Nat.reduceLT, Nat.reduceLeDiff, ↓reduceIte, Kind.isOwn, exists_eq_left', ne_eq, implies_true, false_imp_iff, forall_const, reduceCtorEq, forall_eq, BB], by simp only [frEnt, geto, eta, SV.ren, Nat.reduceAdd, Nat.reduceSub, Nat.reduceEqDiff, ↓reduceIte, reduceCtorEq, BB]⟩
        · rw [key2, List.take_of_length_le (by simp)]; rfl
        · rintro ⟨i, pre⟩ ⟨hi, hpre⟩
          simp only at hi hpre
          by_cases hi0 : i = 0
          · subst hi0
            simp only [BB] at hpre
            subst hpre
            simp (config := { maxSteps := 1000000 }) only [Int.reduceGE, reduceCtorEq, Nat.reduceEqDiff, Int.reduceSub, Int.reduceNeg, eq_self, ↓reduceIte, ↓binI, ↓evRes, Opd.ev, Sx.get, put, putO, del, dels, retOf, eta, SV.ren, BB, ↓PB]
            exact ⟨[(1, 0)], by simp [EntM, compat, apartM, keysBelow, eta, idHs, rd, ↓reduceIte, Kind.isOwn, exists_eq_left', ne_eq, implies_true, forall_const, BB], by simp [BB]⟩
          · have q0 : (i : Int) - 1 ≥ 0 := by omega
            have v2 : IntKind.i64.wrap ((i : Int) - 1 - 1) = (i : Int) - 1 - 1 := wrap64_eq (by omega) (by omega)
            have q1 : ((i : Int) - 1 < ((ds.length + 1 : Nat) : Int)) := by omega
            have q2 : ((i : Int) - 1).toNat = i - 1 := by omega
            obtain ⟨x, hx⟩ : ∃ x, (d :: ds)[i - 1]? = some x := ⟨_, List.getElem?_eq_getElem (by simp; omega)⟩
            have gx := get_bysI hx
            have hc : turnR n x = (if n < 0 then wrapB (255 - (x.toNat : Int)) else x) := rfl
            have q3 : i - 1 < ds.length + 1 := by omega
            have hb3 := wrapB_sv (255 - (x.toNat : Int))
            simp (config := { maxSteps := 1000000 }) only [hn, q0, q1, q2, q3, v2, gx, reduceCtorEq, Nat.reduceEqDiff, Nat.reduceAdd, eq_self, ↓reduceIte, ↓binI, ↓fillE, Opd.ev, Sx.get, put, putO, del, dels, rd, rm, splice, SV.cells?, SV.one, BB, ↓PB]
            rw [take_succ_rev hi0 hx, List.map_cons, ← List.singleton_append, ← List.append_assoc, hc] at hpre
            simp only [hn, if_true, if_false] at hpre
            have h10 : pre.length ≤ 10 := by have := congrArg List.length hpre; simp at this; omega
            have hci : ((i - 1 : Nat) : Int) = (i : Int) - 1 := by omega
            first
              | rw [hb3, bytes_app1]
              | rw [byte_I, bytes_app1]
            exact ⟨by omega, by omega, (i - 1, _), ⟨[(0, 0), (3, 0)], by simp [EntM, compat, apartM, keysBelow, eta, idHs, rd, Nat.reduceAdd, Nat.reduceLeDiff, ↓reduceIte, Kind.isOwn, exists_eq_left', ne_eq, implies_true, forall_const, reduceCtorEq, forall_eq, BB], by simp [hci, frEnt, geto, eta, SV.ren, Nat.reduceAdd, Nat.reduceEqDiff, Nat.reduceLeDiff, ↓reduceIte, reduceCtorEq, BB]⟩, ⟨by simp only; omega, hpre⟩, by simp only; omega⟩
def gIntR : GS
  | [.int .i64 n], [] => some (.slc 0 0 1 (encR n).length none, [(0, ⟨.own 5, bys (encR n)⟩)], 1)
  | _, _ => none
theorem gIntR_ok : FunS Tryd.prog tS 38 gIntR := by
  intro a0 m0 r m1 n1 h
  unfold gIntR at h
  split at h
  · cases h; exact ⟨f38 _, by simp [freshB]⟩
  · cases h
end Go.Proofs.YtkfbkooobfepeaaDoor

/- The reference's encodings of lists of integers and of texts; the joining of slices. -/
namespace Go.Proofs.YtkfbkooobfepeaaDoor
open Go Go.Sx Sf
set_option maxRecDepth 100000
set_option linter.unusedVariables false
variable {tS : List (Nat × List SV)}
def tabB : List (FuncId × GS) := [(38, gIntR)]
theorem tabB_ok : ∀ x ∈ tabB, FunS Tryd.prog tS x.1 x.2 := by
  intro x hx
  simp only [tabB, List.mem_cons, List.not_mem_nil, or_false] at hx
  rcases hx with rfl
  exact gIntR_ok
def encSR (s : List UInt8) : List UInt8 := encR s.length ++ s
theorem f36 (s : List UInt8) (hs : s.length ≤ 2 ^ 39) : Fun Tryd.prog tS 36 [.str s] [] 0 (.slc 0 0 1 (encSR s).length none) [(0, ⟨.own 5, bys (encSR s)⟩)] 1 := by
  refine fun_any none (callS tabB cF) (callS_ok tabB_ok cF_ok) chk36 (show 1 ≤ 9 by decide) (by decide) ?_
  unfold sf36 om oq
  have hI := encR_len s.length
  simp (config := { maxSteps := 1000000 }) only [tabB, gIntR, lookF, reduceCtorEq, Nat.reduceEqDiff, Nat.reduceAdd, eq_self,  true_and, List.length_nil, List.append_nil, List.drop_zero, List.map_cons, List.map_nil, Nat.zero_add, Nat.add_zero, frOf, den_nil, den_o0, den_o1, kont_app, den_reg, den_seq, den_ret, finE_r, ↓reduceIte, ↓e_app, ↓e_mv, ↓e_s2b, ↓e_call, ↓e_len, ↓u_srcOf, ↓u_srcSl, ↓evRes, Opd.ev, Sx.get, put, putO, del, dels, rd, rm, retOf, ↓u_callS, canLW, canV, belowL, apH, eta, SV.ren, newOwn, targets, rms, Kind.isOwn, ren_bytes, List.getElem?_nil, Option.getD_none, Nat.sub_zero, Nat.le_refl, take_bytes, map_byte, len_bytes, Nat.mul_one]
  exact ⟨by omega, by omega, [(2, 0)], by simp [encSR, bytes_app, EntM, compat, apartM, keysBelow, eta, idHs, rd, Option.getD_some, List.length_cons, List.length_nil, Nat.zero_add, Nat.add_zero, ↓reduceIte, Kind.isOwn, List.take_zero, and_self, true_and, exists_eq_left', Option.some.injEq, ne_eq, implies_true, List.not_mem_nil, Bool.true_or, forall_const, ren_bytes], by simp [encSR, Option.getD_some, List.length_cons, List.length_nil, Nat.zero_add, Nat.add_zero]⟩
def gBytesR : GS
  | [.str s], [] => if s.length ≤ 2 ^ 39 then some (.slc 0 0 1 (encSR s).length none, [(0, ⟨.own 5, bys (encSR s)⟩)], 1) else none
  | _, _ => none
theorem gBytesR_ok : FunS Tryd.prog tS 36 gBytesR := by
  intro a0 m0 r m1 n1 h
  unfold gBytesR at h
  split at h
  · split at h
    · cases h
      exact ⟨f36 _ (by assumption), by simp [freshB]⟩
    · cases h
  · cases h

theorem f37 (d : List UInt8) (hd : d.length = 16) : Fun Tryd.prog tS 37 [.agg (bys d)] [] 0 (.str d) [] 0 := by
  refine fun_any none cF cF_ok chk37 (show 1 ≤ 17 by decide) (by decide) ?_
  unfold sf37 om oq
  simp (config := { maxSteps := 1000000 }) only [reduceCtorEq, Nat.reduceEqDiff, eq_self, Nat.zero_add, frOf, den_o0, den_o1, kont_app, den_reg, den_seq, den_block, ↓reduceIte, ↓e_box, ↓e_mv, Opd.ev, Sx.get, put, putO, del, dels, SV.cells?]
  rw [den_loop]
  refine den_inv cF_ok (σ := Nat) (fun i => [(4, .int .i64 (i : Int)), (3, nlS 1 1 i), (1, .ptr 0 0)])
    (fun i => nlM 1 5 (bys (d.take i)) [(0, ⟨.own 36, bys d⟩)] i) (fun i => nlN 1 i) (fun i => i ≤ 16) (fun i => 16 - i) 0 ?_ (Nat.zero_le _) ?_
  · exact ⟨[(0, 0)], by simp [EntM, compat, apartM, keysBelow, eta, idHs, rd, Option.getD_some, List.length_cons, List.length_nil, Nat.zero_add, Nat.add_zero, ↓reduceIte, Kind.isOwn, List.take_zero, and_self, true_and, exists_eq_left', Option.some.injEq, ne_eq, implies_true, List.not_mem_nil, Bool.true_or, forall_const, ren_bytes, nlM_0, nlN_0], by simp [frEnt, geto, eta, SV.ren, Option.getD_some, List.length_cons, List.length_nil, Nat.zero_add, Nat.add_zero, Nat.reduceEqDiff, ↓reduceIte, and_self, Nat.succ_ne_self, nlS_0]⟩
  · intro i hi
    by_cases h : i < 16
    · have c1 : (i : Int) < 16 := by omega
      have c2 : (0 : Int) ≤ (i : Int) := by omega
      have wi : IntKind.i64.wrap ((i : Int) + 1) = ((i + 1 : Nat) : Int) := by rw [wrap64_eq (by omega) (by omega)]; omega
      obtain ⟨x, hx⟩ : ∃ x, d[i]? = some x := ⟨_, List.getElem?_eq_getElem (by omega)⟩
      have gx := get_bysI hx
      have ht : bys (d.take i) ++ [SV.byte x] = bys (d.take (i + 1)) := by
        rw [bytes_app1, List.take_add_one, hx]; rfl
      have hlt : (bys (d.take i)).length = i := by rw [len_bytes]; simp; omega
      cases i with
      | zero =>
        simp (config := { maxSteps := 1000000 }) only [gx, again_n, Nat.reduceEqDiff, Nat.reduceAdd, Int.reduceToNat, Int.reduceLT, Int.reduceLE, Int.reduceAdd, Int.reduceNeg, wrap64, eq_self, decide_true, Int.cast_ofNat_Int,  true_and, List.length_cons, List.length_nil, List.append_nil, List.nil_append, List.take_succ_cons, List.take_zero, List.drop_succ_cons, List.drop_zero, List.take_nil, List.drop_nil, Nat.zero_add, Nat.add_zero, den_nil, den_o0, ↓gd_tt, den_o1, kont_app, den_skip, den_reg, den_seq, den_cond, den_block, den_b, ↓reduceIte, ↓e_bslice, ↓e_load, ↓e_app, ↓e_mv, ↓e_idxA, ↓e_bin, ↓u_onInt, ↓u_binV, ↓u_srcOf, ↓u_srcSl, ↓binI, ↓fillE, Opd.ev, Sx.get, put, putO, del, dels, rd, splice, SV.cells?, SV.one, Nat.sub_zero, Nat.le_refl, nlS_0, nlM_0, nlN_0, Nat.mul_one, Int.cast_ofNat_Int]
        rw [byte_I]
        have ht : bys (d.take (0 + 1)) = bys [x] := by rw [← ht]; rfl
        exact ⟨by omega, by omega, 0 + 1, ⟨[(0, 0), (2, 0)], by simp only [ht, EntM, compat, apartM, keysBelow, eta, idHs, rd, Option.getD_some, List.getElem?_cons_zero, List.getElem?_cons_succ, List.length_cons, List.length_nil, Nat.zero_add, Nat.add_zero, Nat.reduceAdd, Nat.reduceSub, Nat.reduceLT, Nat.reduceLeDiff, ↓reduceIte, Kind.isOwn, List.take_zero, and_self, true_and, exists_eq_left', Option.some.injEq, ne_eq, not_false_eq_true, implies_true, List.not_mem_nil, false_imp_iff, Bool.true_or, forall_const, reduceCtorEq, List.mem_cons, or_false, forall_eq, Nat.succ_ne_self, one_byte, ren_bytes, nlM_1, nlN_1], by simp only [frEnt, geto, eta, SV.ren, Option.getD_some, List.getElem?_cons_zero, List.getElem?_cons_succ, List.length_cons, List.length_nil, Nat.zero_add, Nat.add_zero, Nat.reduceAdd, Nat.reduceSub, Nat.reduceEqDiff, ↓reduceIte, and_self, and_true, Option.some.injEq, Nat.succ_ne_self, nlS_1]; trivial⟩, by omega, by omega⟩
      | succ i =>
        simp (config := { maxSteps := 1000000 }) only [c1, c2, wi, gx, again_n, reduceCtorEq, Nat.reduceEqDiff, Nat.reduceAdd, eq_self, decide_true, Int.cast_ofNat_Int,  true_and, List.length_cons, List.length_nil, List.append_nil, List.nil_append, List.take_succ_cons, List.take_zero, List.drop_succ_cons, List.drop_zero, List.take_nil, List.drop_nil, Nat.zero_add, den_nil, den_o0, ↓gd_tt, den_o1, kont_app, den_skip, den_reg, den_seq, den_cond, den_block, den_b, ↓reduceIte, ↓e_bslice, ↓e_load, ↓e_app, ↓e_mv, ↓e_idxA, ↓e_bin, ↓u_onInt, ↓u_binV, ↓u_srcOf, ↓u_srcSl, ↓binI, ↓fillE, Opd.ev, Sx.get, put, putO, del, dels, rd, rm, splice, SV.cells?, SV.one, Nat.le_refl, nlS_1, nlM_1, nlN_1, len_bytes, Int.toNat_natCast, Nat.mul_one, Int.cast_ofNat_Int]
        rw [byte_I]
        have e0 : List.take (i + 1) (bys (List.take (i + 1) d)) = bys (List.take (i + 1) d) := List.take_of_length_le (by omega)
        rw [e0, ht]
        exact ⟨by omega, by omega, by rw [len_bytes] at hlt; omega, i + 1 + 1, ⟨[(0, 0), (3, 0)], by simp only [EntM, compat, apartM, keysBelow, eta, idHs, rd, Option.getD_some, List.getElem?_cons_zero, List.getElem?_cons_succ, List.length_cons, List.length_nil, Nat.zero_add, Nat.add_zero, Nat.reduceAdd, Nat.reduceSub, Nat.reduceLT, Nat.reduceLeDiff, ↓reduceIte, Kind.isOwn, List.take_zero, and_self, true_and, exists_eq_left', Option.some.injEq, ne_eq, not_false_eq_true, implies_true, List.not_mem_nil, false_imp_iff, Bool.true_or, forall_const, reduceCtorEq, List.mem_cons, or_false, forall_eq, one_byte, ren_bytes, nlM_1, nlN_1], by simp only [frEnt, geto, eta, SV.ren, Option.getD_some, List.getElem?_cons_zero, List.getElem?_cons_succ, List.length_cons, List.length_nil, Nat.zero_add, Nat.add_zero, Nat.reduceAdd, Nat.reduceSub, Nat.reduceEqDiff, ↓reduceIte, and_self, Nat.succ_ne_self, nlS_1]⟩, by omega, by omega⟩
    · obtain rfl : i = 16 := by omega
      simp (config := { maxSteps := 1000000 }) only [again_x, Nat.reduceEqDiff, Nat.reduceAdd, Int.reduceLT, eq_self, decide_false, Int.cast_ofNat_Int,  true_and, List.drop_zero, Nat.zero_add, den_nil, den_o0, ↓gd_ft, den_o1, kont_app, den_reg, den_seq, den_cond, den_exit, den_ret, den_xb, den_xc, finE_r, ↓reduceIte, ↓e_b2s, ↓e_mv, ↓e_bin, ↓u_binV, ↓u_srcSl, ↓binI, ↓evRes, Opd.ev, Sx.get, put, putO, del, dels, rd, retOf, SV.ren, nlS_1, nlM_1, nlN_1, len_bytes, Nat.mul_one, Int.cast_ofNat_Int]
      have e : List.take 16 d = d := List.take_of_length_le (by omega)
      have e1 : List.take 16 (bys d) = bys d := List.take_of_length_le (by rw [len_bytes]; omega)
      rw [e, e1, map_byteOf]
      exact ⟨by omega, all_isU8 _, [], by simp [EntM, compat, apartM, keysBelow, idHs, List.length_nil, List.take_nil, and_self], rfl⟩
def gText : GS
  | [.agg cells], [] => match unB cells with
    | some d => if d.length = 16 then some (.str d, [], 0) else none
    | none => none
  | _, _ => none
theorem gText_ok : FunS Tryd.prog tS 37 gText := by
  intro a0 m0 r m1 n1 h
  unfold gText at h
  split at h
  · split at h
    · rename_i d hd
      split at h
      · cases h
        rw [unB_some hd]
        exact ⟨f37 d (by assumption), by simp [freshB]⟩
      · cases h
    · cases h
  · cases h
end Go.Proofs.YtkfbkooobfepeaaDoor

/- The joining of slices. -/
namespace Go.Proofs.YtkfbkooobfepeaaDoor
open Go Go.Sx Sf
set_option maxRecDepth 100000
set_option linter.unusedVariables false
variable {tS : List (Nat × List SV)}
end Go.Proofs.YtkfbkooobfepeaaDoor

/- The statements of custodians: what they are. -/
namespace Go.Proofs.YtkfbkooobfepeaaDoor
open Go Go.Sx Sf
set_option maxRecDepth 100000
set_option linter.unusedVariables false
variable {tS : List (Nat × List SV)}
end Go.Proofs.YtkfbkooobfepeaaDoor

/- The plain law of the encodings of integers: the program's and the reference's are the same. -/
namespace Go.Proofs.YtkfbkooobfepeaaDoor
open Go Go.Sx Sf
set_option maxRecDepth 100000
set_option linter.unusedSimpArgs false
set_option linter.unusedVariables false
def byN (m j : Nat) : Nat := m / 256 ^ j % 256
def magN (n : Int) : Nat := if n < 0 then (-1 - n).toNat else n.toNat
theorem magN_lt {n : Int} (h : R64 n) : magN n < 9223372036854775808 := by
  unfold magN R64 at *
  split <;> omega
theorem magR_eq {n : Int} (h : R64 n) : magR n = (magN n : Int) := by
  unfold magR magN R64 at *
  split
  · rw [wrap64_eq (by omega) (by omega)]; omega
  · omega
theorem wrapU64 (x : Int) : IntKind.u64.wrap x = x % 18446744073709551616 := by
  simp [IntKind.wrap, IntKind.bits, IntKind.signed]
theorem wrapU8' (x : Int) : IntKind.u8.wrap x = x % 256 := by
  simp [IntKind.wrap, IntKind.bits, IntKind.signed]
theorem xor_max64 (x : Int) : bitop .xor .u64 (if IntKind.u64.signed then -1 else IntKind.u64.max) x = 18446744073709551615 - x % 18446744073709551616 := by
  have hm : (if IntKind.u64.signed then (-1 : Int) else IntKind.u64.max) = 18446744073709551615 := by decide
  rw [hm]
  unfold bitop
  simp only
  have e1 : BitVec.ofInt IntKind.u64.bits 18446744073709551615 = BitVec.allOnes 64 := show BitVec.ofInt 64 18446744073709551615 = BitVec.allOnes 64 by decide
  have e2 : (BitVec.allOnes 64 ^^^ BitVec.ofInt 64 x) = ~~~ (BitVec.ofInt 64 x) := by
    rw [BitVec.allOnes_xor]
  rw [e1]
  show IntKind.u64.wrap ((BitVec.allOnes 64 ^^^ BitVec.ofInt 64 x).toNat : Int) = _
  rw [e2, BitVec.toNat_not, wrapU64, BitVec.toNat_ofInt]
  omega
theorem encM_eq {n : Int} (h : R64 n) : encM n = (magN n : Int) := by
  unfold encM magN R64 at *
  split
  · rw [xor_max64, wrapU64]; omega
  · rw [wrapU64]; omega
theorem xor8_0 (x : Int) (h : 0 ≤ x ∧ x < 256) : bitop .xor .u8 x 0 = x := by
  unfold bitop
  simp only
  show IntKind.u8.wrap ((BitVec.ofInt 8 x ^^^ BitVec.ofInt 8 0).toNat : Int) = x
  have e : (BitVec.ofInt 8 x ^^^ BitVec.ofInt 8 0) = BitVec.ofInt 8 x := by
    have : BitVec.ofInt 8 0 = 0#8 := by decide
    rw [this, BitVec.xor_zero]
  rw [e, wrapU8', BitVec.toNat_ofInt]
  omega
theorem xor8_255 (x : Int) (h : 0 ≤ x ∧ x < 256) : bitop .xor .u8 x 255 = 255 - x := by
  unfold bitop
  simp only
  show IntKind.u8.wrap ((BitVec.ofInt 8 x ^^^ BitVec.ofInt 8 255).toNat : Int) = _
  have e : (BitVec.ofInt 8 x ^^^ BitVec.ofInt 8 255) = ~~~ BitVec.ofInt 8 x := by
    have : BitVec.ofInt 8 255 = BitVec.allOnes 8 := by decide
    rw [this, BitVec.xor_comm, BitVec.allOnes_xor]
  rw [e, wrapU8', BitVec.toNat_not, BitVec.toNat_ofInt]
  omega
theorem nth8_eq {m j : Nat} (hj : j < 8) : nth8 (m : Int) j = ((m / 256 ^ j : Nat) : Int) := by
  unfold nth8
  have h1 : min (8 * j) IntKind.u64.bits = 8 * j := Nat.min_eq_left (by show 8 * j ≤ 64; omega)
  rw [h1]
  have h2 : ((2 : Int) ^ (8 * j)) = ((256 ^ j : Nat) : Int) := by
    rw [Int.pow_mul]; simp
  rw [h2]
  exact (Int.ofNat_fdiv _ _).symm
theorem wrap_nth8 {m j : Nat} (hj : j < 8) : IntKind.u8.wrap (nth8 (m : Int) j) = (byN m j : Int) := by
  rw [nth8_eq hj, wrapU8']; unfold byN; omega
theorem byN_lt (m j : Nat) : byN m j < 256 := Nat.mod_lt _ (by decide)
theorem byN_succ (m j : Nat) : byN m (j + 1) = byN (m / 256) j := by
  unfold byN; rw [Nat.pow_succ, Nat.mul_comm, Nat.div_div_eq_div_mul]
theorem nxtR_eq {m : Nat} (h : m < 9223372036854775808) : nxtR (m : Int) = ((m / 256 : Nat) : Int) := by
  unfold nxtR
  rw [Int.tdiv_eq_ediv_of_nonneg (by omega), wrap64_eq (by omega) (by omega)]; omega
theorem dig_eq : ∀ (m : Nat), m < 9223372036854775808 → dig (m : Int) = (List.range (dig (m : Int)).length).map fun j => UInt8.ofNat (byN m j)
  | 0, _ => by rw [dig_neg (by omega)]; rfl
  | m + 1, h => by
    have hp : ((m + 1 : Nat) : Int) > 0 := by omega
    have ih := dig_eq ((m + 1) / 256) (by omega)
    rw [dig_pos hp, nxtR_eq h]
    simp only [List.length_cons, List.range_succ_eq_map, List.map_cons, List.map_map]
    congr 1
    · unfold wrapB byN
      rw [wrapU8', Int.tmod_eq_emod_of_nonneg (by omega)]
      congr 1
      simp only [Nat.pow_zero, Nat.div_one]
      omega
    · conv => lhs; rw [ih]
      apply List.map_congr_left
      intro j _
      simp only [Function.comp, byN_succ]
termination_by m => m
decreasing_by omega
theorem dig_len_le : ∀ (k m : Nat), m < 9223372036854775808 → m < 256 ^ k → (dig (m : Int)).length ≤ k := fun k m h h' => dig_len k _ (by exact_mod_cast h')
theorem dig_len_gt : ∀ (k m : Nat), m < 9223372036854775808 → 256 ^ k ≤ m → k < (dig (m : Int)).length
  | 0, m, h, h' => by
    rw [dig_pos (by simp at h'; omega)]; simp
  | k + 1, m, h, h' => by
    have hk : 0 < 256 ^ (k + 1) := Nat.pow_pos (by decide)
    rw [dig_pos (by omega), nxtR_eq h]
    have := dig_len_gt k (m / 256) (by omega) (by rw [Nat.le_div_iff_mul_le (by decide)]; rw [Nat.pow_succ] at h'; exact h')
    simp only [List.length_cons]; omega
theorem topK_eq {m : Nat} (h : m < 9223372036854775808) : ∀ k, k ≤ 8 → m < 256 ^ k → topK (m : Int) k = (dig (m : Int)).length
  | 0, _, h' => by
    have : m = 0 := by simpa using h'
    subst this
    rw [dig_neg (by omega)]; rfl
  | k + 1, hk, h' => by
    unfold topK
    rw [nth8_eq (by omega)]
    have hpos : 0 < 256 ^ k := Nat.pow_pos (by decide)
    by_cases hc : 256 ^ k ≤ m
    · have h1 : 0 < m / 256 ^ k := Nat.div_pos hc hpos
      rw [if_pos (by exact_mod_cast h1)]
      have := dig_len_le (k + 1) m h h'
      have := dig_len_gt k m h hc
      omega
    · have h1 : m / 256 ^ k = 0 := Nat.div_eq_of_lt (by omega)
      rw [h1, if_neg (by decide)]
      exact topK_eq h k (by omega) (by omega)
theorem encTail_eq (m f : Int) : ∀ i, encTail m f i = (List.range i).reverse.map fun j => flipB (IntKind.u8.wrap (nth8 m j)) f
  | 0 => rfl
  | i + 1 => by
    rw [List.range_succ, List.reverse_append]
    simp only [encTail, BB]
    rw [encTail_eq m f i]
theorem enc_same {n : Int} (h : R64 n) : encI n = encR n := by
  have hm := magN_lt h
  have h8 : magN n < 256 ^ 8 := Nat.lt_trans hm (by decide)
  unfold encI encR hdR
  rw [encM_eq h, magR_eq h, topK_eq hm 8 (Nat.le_refl _) h8]
  have hl : (dig (magN n : Int)).length ≤ 8 := dig_len_le 8 _ hm h8
  generalize hK : (dig (magN n : Int)).length = K at *
  have hd := dig_eq _ hm
  rw [hK] at hd
  congr 1
  · unfold encHd encF flipB wrapB
    by_cases hn : n < 0
    · rw [if_pos hn, if_neg (by omega), xor8_255 _ (wrapU8_rng _), wrapU8', wrapU8', wrap64_eq (by omega) (by omega)]
      congr 1; omega
    · rw [if_neg hn, if_pos (by omega), xor8_0 _ (wrapU8_rng _), wrapU8', wrapU8', wrap64_eq (by omega) (by omega)]
  · rw [encTail_eq, hd, ← List.map_reverse, List.map_map]
    apply List.map_congr_left
    intro j hj
    have hj8 : j < 8 := by simp at hj; omega
    simp only [Function.comp]
    rw [wrap_nth8 hj8]
    have hb := byN_lt (magN n) j
    unfold encF turnR flipB wrapB
    by_cases hn : n < 0
    · rw [if_pos hn, if_pos hn, xor8_255 _ (by omega), wrapU8']
      congr 1
      simp only [UInt8.toNat_ofNat']
      omega
    · rw [if_neg hn, if_neg hn, xor8_0 _ (by omega)]
      congr 1
end Go.Proofs.YtkfbkooobfepeaaDoor

/- The plain law of the encodings of integers: nothing is the encoding of two, nor the beginning of another. -/
namespace Go.Proofs.YtkfbkooobfepeaaDoor
open Go Go.Sx Sf
set_option maxRecDepth 100000
set_option linter.unusedSimpArgs false
set_option linter.unusedVariables false
theorem hd_val {n : Int} {K : Nat} (hK : K ≤ 8) : encHd (encF n) K = UInt8.ofNat (if n < 0 then 127 - K else 128 + K) := by
  unfold encHd encF flipB
  by_cases hn : n < 0
  · rw [if_pos hn, if_pos hn, xor8_255 _ (wrapU8_rng _), wrapU8']
    congr 1; omega
  · rw [if_neg hn, if_neg hn, xor8_0 _ (wrapU8_rng _), wrapU8']
    congr 1; omega
theorem encI_form' {n : Int} (h : R64 n) : ∃ K, K ≤ 8 ∧ magN n < 256 ^ K ∧ (K = 0 ∨ 256 ^ (K - 1) ≤ magN n) ∧ encI n = UInt8.ofNat (if n < 0 then 127 - K else 128 + K) :: (List.range K).reverse.map fun j => UInt8.ofNat (if n < 0 then 255 - byN (magN n) j else byN (magN n) j) := by
  have hm := magN_lt h
  have h8 : magN n < 256 ^ 8 := Nat.lt_trans hm (by decide)
  refine ⟨(dig (magN n : Int)).length, dig_len_le 8 _ hm h8, ?_, ?_, ?_⟩
  · rcases Nat.lt_or_ge (magN n) (256 ^ (dig (magN n : Int)).length) with h1 | h1
    · exact h1
    · have := dig_len_gt _ _ hm h1; omega
  · rcases Nat.eq_zero_or_pos (dig (magN n : Int)).length with h0 | h0
    · exact .inl h0
    · refine .inr ?_
      rcases Nat.lt_or_ge (magN n) (256 ^ ((dig (magN n : Int)).length - 1)) with h1 | h1
      · have := dig_len_le _ _ hm h1; omega
      · exact h1
  · unfold encI
    rw [encM_eq h, topK_eq hm 8 (Nat.le_refl _) h8]
    have hl : (dig (magN n : Int)).length ≤ 8 := dig_len_le 8 _ hm h8
    generalize (dig (magN n : Int)).length = K at *
    rw [hd_val hl, encTail_eq]
    congr 1
    apply List.map_congr_left
    intro j hj
    have hj8 : j < 8 := by simp at hj; omega
    rw [wrap_nth8 hj8]
    have hb := byN_lt (magN n) j
    unfold encF flipB
    by_cases hn : n < 0
    · rw [if_pos hn, if_pos hn, xor8_255 _ (by omega)]
      congr 1; omega
    · rw [if_neg hn, if_neg hn, xor8_0 _ (by omega)]
      congr 1
end Go.Proofs.YtkfbkooobfepeaaDoor

/- The reference's digest of parts: the input. -/
namespace Go.Proofs.YtkfbkooobfepeaaDoor
open Go Go.Sx Sf
set_option maxRecDepth 100000
set_option linter.unusedVariables false
variable {tS : List (Nat × List SV)}
theorem encSR_eq {s : List UInt8} (h : s.length ≤ 2 ^ 39) : encSR s = encS s := by
  unfold encSR encS
  rw [enc_same (show R64 (s.length : Int) from ⟨by omega, by omega⟩)]
theorem gBytesR_eq {s : List UInt8} (h : s.length ≤ 2 ^ 39) : gBytesR [.str s] [] = some (.slc 0 0 1 (encS s).length none, [(0, ⟨.own 5, bys (encS s)⟩)], 1) := by
  simp [gBytesR, h, encSR_eq h]
theorem tabBR_ok : ∀ x ∈ [((36 : FuncId), gBytesR)], FunS Tryd.prog tS x.1 x.2 := by
  intro x hx
  simp only [List.mem_cons, List.not_mem_nil, or_false] at hx
  subst hx
  exact gBytesR_ok
def cBR : CallT := callS [(36, gBytesR)] cF
theorem cBR_ok : ∀ f a m n K, cBR f a m n K → callT Tryd.prog tS f a m n K := callS_ok tabBR_ok cF_ok
set_option maxHeartbeats 4000000 in
theorem f56 (tag : Int) (ps : List (List UInt8)) (h : okT tag ps) (cap : Option Nat) (hcap : CapOk cap ps.length) :
    Fun Tryd.prog tS 56 [.int .i64 tag, .slc 0 0 1 ps.length cap] [(0, ⟨.view, strs ps⟩)] 1 (.slc 1 0 1 (ofM tag ps).length none) [(1, ⟨.own 5, bys (ofM tag ps)⟩)] 2 := by
  refine fun_any none cBR cBR_ok chk56 (show 2 ≤ 24 by decide) (by decide) ?_
  unfold sf56 om oq
  obtain ⟨hp, hT, hk⟩ := h
  have hlT : (ofM tag ps).length = 1 + ((ps.map encS).flatten).length := by simp [ofM]; omega
  have rS : ∀ η, SV.renL η (strs ps) = strs ps := fun η => ren_strs η ps
  simp (config := { maxSteps := 1000000 }) only [cBR, reduceCtorEq, Nat.reduceEqDiff, Nat.reduceAdd, eq_self,  true_and, List.length_cons, List.length_nil, List.append_nil, List.nil_append, List.take_zero, List.drop_succ_cons, List.drop_nil, Nat.zero_add, frOf, den_o0, den_o1, kont_app, den_reg, den_seq, den_block, ↓reduceIte, ↓e_bslice, ↓e_mv, ↓e_conv, ↓fillE, Opd.ev, Sx.get, put, putO, del, dels, splice, SV.cells?, SV.one, Nat.le_refl]
  have e0 : [SV.int .u8 (IntKind.u8.wrap tag)] = bys (ofM tag (ps.take 0)) := by rw [wrapB_sv]; rfl
  rw [e0, den_loop]
  have f0 : (ofM tag (ps.take 0)).length = 1 := rfl
  refine den_inv cBR_ok (σ := Nat) (fun j => [(6, .int .i64 (j : Int)), (5, .slc 1 0 1 (ofM tag (ps.take j)).length none), (1, .slc 0 0 1 ps.length cap)])
    (fun j => [(1, ⟨.own 5, bys (ofM tag (ps.take j))⟩), (0, ⟨.view, strs ps⟩)]) (fun _ => 2) (fun j => j ≤ ps.length) (fun j => ps.length - j) 0 ?_ (Nat.zero_le _) ?_
  · exact ⟨[(0, 0), (1, 0)], by simp only [rS, EntM, compat, apartM, keysBelow, eta, idHs, rd, Option.getD_some, List.getElem?_cons_zero, List.getElem?_cons_succ, List.length_cons, List.length_nil, Nat.zero_add, Nat.add_zero, Nat.reduceAdd, Nat.reduceSub, Nat.reduceLT, Nat.reduceLeDiff, ↓reduceIte, Kind.isOwn, List.take_succ_cons, List.take_zero, List.nil_append, and_self, true_and, exists_eq_left', Option.some.injEq, List.drop_zero, List.take_length, Nat.le_refl, ne_eq, not_false_eq_true, implies_true, List.not_mem_nil, false_imp_iff, Bool.false_or, Bool.true_or, forall_const, List.mem_cons, or_false, forall_eq, Nat.succ_ne_self, ren_bytes], by simp only [frEnt, geto, eta, SV.ren, Option.getD_some, List.getElem?_cons_zero, List.getElem?_cons_succ, List.length_cons, List.length_nil, Nat.zero_add, Nat.add_zero, Nat.reduceAdd, Nat.reduceSub, Nat.reduceEqDiff, ↓reduceIte, List.take_zero, and_self, and_true, Option.some.injEq, Nat.succ_ne_self] <;> exact ⟨rfl, rfl⟩⟩
  · intro j hj
    have hln := len_strs ps
    by_cases hj2 : j < ps.length
    · obtain ⟨p, hpj⟩ : ∃ p, ps[j]? = some p := ⟨ps[j], by simp [hj2]⟩
      have hpm : p ∈ ps := List.mem_of_getElem? hpj
      have gp := get_strs hpj
      have c1 : (j : Int) < (ps.length : Int) := by omega
      have c2 : (0 : Int) ≤ (j : Int) := by omega
      have v4 : IntKind.i64.wrap ((j : Int) + 1) = ((j + 1 : Nat) : Int) := by rw [wrap64_eq (by omega) (by omega)]; omega
      have gb := gBytesR_eq (hp p hpm)
      have hst := ofM_step (tag := tag) hpj
      have hle : (ofM tag (ps.take (j + 1))).length ≤ (ofM tag ps).length := by
        have := flat_le (ps := ps) (j := j + 1)
        simp only [ofM, List.length_cons]
        omega
      have hle2 : (ofM tag (ps.take j)).length + (encS p).length = (ofM tag (ps.take (j + 1))).length := by rw [← hst]; simp
      have tb := take_bytes (encS p)
      have ta := take_bytes (ofM tag (ps.take j))
      have ap : bys (ofM tag (ps.take j)) ++ bys (encS p) = bys (ofM tag (ps.take (j + 1))) := by rw [bytes_app, hst]
      simp (config := { maxSteps := 1000000 }) only [hln, c1, c2, v4, gp, ↓gb, tb, ta, ap, hle2, lookF, again_n, reduceCtorEq, Nat.reduceEqDiff, Nat.reduceAdd, eq_self, decide_true,  true_and, List.length_nil, List.append_nil, List.nil_append, List.cons_append, List.drop_zero, List.map_cons, List.map_nil, Nat.zero_add, Nat.add_zero, den_nil, den_o0, ↓gd_tt, den_o1, kont_app, den_skip, den_reg, den_seq, den_cond, den_block, den_b, ↓reduceIte, ↓e_load, ↓e_idxS, ↓e_app, ↓e_mv, ↓e_bin, ↓e_call, ↓e_len, ↓u_binV, ↓u_srcOf, ↓u_srcSl, ↓binI, Opd.ev, Sx.get, put, putO, del, dels, rd, rm, ↓u_callS, canLW, canV, belowL, apH, eta, SV.ren, newOwn, targets, rms, Kind.isOwn, ren_bytes, List.getElem?_nil, Option.getD_none, Nat.sub_zero, Nat.le_refl, len_bytes, Int.toNat_natCast, Nat.mul_one]
      exact ⟨hj2, by omega, by omega, j + 1, ⟨[(0, 0), (3, 0)], by simp only [rS, EntM, compat, apartM, keysBelow, eta, idHs, rd, Option.getD_some, List.getElem?_cons_zero, List.getElem?_cons_succ, List.length_cons, List.length_nil, Nat.zero_add, Nat.add_zero, Nat.reduceAdd, Nat.reduceSub, Nat.reduceLT, Nat.reduceLeDiff, ↓reduceIte, Kind.isOwn, List.take_succ_cons, List.take_zero, List.nil_append, and_self, true_and, exists_eq_left', Option.some.injEq, List.drop_zero, List.take_length, Nat.le_refl, ne_eq, not_false_eq_true, implies_true, List.not_mem_nil, false_imp_iff, Bool.false_or, Bool.true_or, forall_const, reduceCtorEq, List.mem_cons, or_false, forall_eq, ren_bytes], by simp [frEnt, geto, eta, SV.ren, Option.getD_some, List.length_cons, List.length_nil, Nat.zero_add, Nat.add_zero, Nat.reduceAdd, Nat.reduceEqDiff, Nat.reduceLeDiff, ↓reduceIte, and_self, Nat.succ_ne_self]⟩, by omega, by omega⟩
    · obtain rfl : j = ps.length := by omega
      have e1 : ps.take ps.length = ps := List.take_length
      rw [e1]
      have c3 : decide ((ps.length : Int) < (ps.length : Int)) = false := by simp
      simp (config := { maxSteps := 1000000 }) only [c3, again_x, Nat.reduceEqDiff, eq_self,  true_and, Nat.add_zero, den_nil, den_o0, ↓gd_ft, den_o1, kont_app, den_reg, den_seq, den_cond, den_exit, den_ret, den_xb, den_xc, finE_r, ↓reduceIte, ↓e_mv, ↓e_bin, ↓e_len, ↓u_binV, ↓binI, ↓evRes, Opd.ev, Sx.get, put, putO, del, dels, retOf, eta, SV.ren]
      exact ⟨[(0, 0), (1, 0)], by simp [EntM, compat, apartM, keysBelow, eta, idHs, rd, Option.getD_some, List.length_cons, List.length_nil, Nat.zero_add, Nat.add_zero, Nat.reduceAdd, Nat.reduceLeDiff, ↓reduceIte, Kind.isOwn, List.take_succ_cons, List.take_zero, List.nil_append, and_self, true_and, exists_eq_left', Option.some.injEq, ne_eq, implies_true, List.not_mem_nil, Bool.true_or, forall_const, ren_bytes], by simp [Option.getD_some, List.length_cons, List.length_nil, Nat.zero_add, Nat.add_zero, Nat.reduceAdd, Nat.reduceLeDiff]⟩
def gIn : GS
  | [.int .i64 tag, .slc 0 0 1 len cap], [(0, ⟨.view, cells⟩)] => match unStr cells with
    | some ps => match capB cap ps.length with
      | true => if len = ps.length ∧ okT tag ps then some (.slc 1 0 1 (ofM tag ps).length none, [(1, ⟨.own 5, bys (ofM tag ps)⟩)], 2) else none
      | _ => none
    | none => none
  | _, _ => none
theorem gIn_ok : FunS Tryd.prog tS 56 gIn := by
  intro a0 m0 r m1 n1 h
  unfold gIn at h
  split at h
  · split at h
    · rename_i ps hps
      split at h
      · rename_i hcap
        split at h
        · rename_i hc
          cases h
          obtain ⟨rfl, h1⟩ := hc
          rw [unStr_some hps]
          exact ⟨f56 _ ps h1 _ (capB_ok hcap), by simp [freshB]⟩
        · cases h
      · cases h
    · cases h
  · cases h
end Go.Proofs.YtkfbkooobfepeaaDoor

/- The reference's digest of parts. -/
namespace Go.Proofs.YtkfbkooobfepeaaDoor
open Go Go.Sx Sf
set_option maxRecDepth 100000
set_option linter.unusedVariables false
def cpC (X : List UInt8) (i : Nat) : List SV := bys (X.take i) ++ List.replicate (16 - i) (.int .u8 0)
theorem cpC_len {X : List UInt8} {i : Nat} (hX : X.length = 32) (h : i ≤ 16) : (cpC X i).length = 16 := by simp [cpC, len_bytes, hX]; omega
theorem cpC_all {X : List UInt8} : cpC X 16 = bys (X.take 16) := by simp [cpC]
theorem cpC_put {X : List UInt8} {i : Nat} {x : UInt8} (hX : X[i]? = some x) (h : i < 16) : splice (cpC X i) i [SV.int .u8 (x.toNat : Int)] = cpC X (i + 1) := by
  unfold cpC
  rw [show (16 - i) = (16 - (i + 1)) + 1 by omega, List.replicate_succ]
  have hi : i < X.length := by
    rw [List.getElem?_eq_some_iff] at hX
    exact hX.1
  have := splice_app (a := bys (X.take i)) (b := [.int .u8 0]) (c := List.replicate (16 - (i + 1)) (.int .u8 0)) (k := i) (d := [SV.byte x]) (by simp [len_bytes]; omega) rfl
  simp only [List.cons_append, List.nil_append] at this
  rw [byte_I, this, List.take_add_one, hX, ← bytes_app, List.append_assoc]
  rfl
theorem cpC_ren (η : Nat → Nat × Nat) (X : List UInt8) (i : Nat) : SV.renL η (cpC X i) = cpC X i := by
  refine SV.flatL_ren η _ ?_
  unfold cpC
  refine flatL_app (flat_bytes _) ?_
  generalize 16 - i = k
  induction k with
  | zero => rfl
  | succ k ih => rw [List.replicate_succ]; simp only [SV.flatL, SV.flat, Bool.true_and]; exact ih
def tabSh : List (FuncId × GS) := [(74, gSumR)]
theorem tabSh_ok : ∀ x ∈ tabSh, FunS Tryd.prog tH2 x.1 x.2 := by
  intro x hx
  simp only [tabSh, List.mem_cons, List.not_mem_nil, or_false] at hx
  subst hx
  exact gSumR_ok
def cSh : CallT := callS tabSh cF
theorem cSh_ok : ∀ f a m n K, cSh f a m n K → callT Tryd.prog tH2 f a m n K := callS_ok tabSh_ok cF_ok
theorem capB_of {cap : Option Nat} {n : Nat} (h : CapOk cap n) : capB cap n = true := by
  cases cap with
  | none => rfl
  | some c => exact Nat.ble_eq_true_of_le (h c rfl)
theorem gSumR_eq {m : List UInt8} {cap : Option Nat} (hm : m.length ≤ 2 ^ 37) (hcap : CapOk cap m.length) : gSumR [.slc 0 0 1 m.length cap] [(0, ⟨.view, bys m⟩)] = some (.agg (bys (sumS m)), [], 1) := by
  unfold gSumR
  simp only [unB_bytes, capB_of hcap, hm, and_self, if_true]
set_option maxHeartbeats 4000000 in
theorem f55 (m : List UInt8) (hm : m.length ≤ 2 ^ 37) (cap : Option Nat) (hcap : CapOk cap m.length) :
    Fun Tryd.prog tH2 55 [.slc 0 0 1 m.length cap] [(0, ⟨.view, bys m⟩)] 1 (.agg (bys ((sumS m).take 16))) [] 1 := by
  refine fun_val none cSh cSh_ok chk55 (show 1 ≤ 19 by decide) (fun η => by simp only [SV.ren, ren_bytes]) ?_
  unfold sf55 om oq ov
  have gs := gSumR_eq hm hcap
  have tm := take_bytes m
  have hX := sumS_len m
  generalize sumS m = X at *
  have hxl : (bys X).length = 32 := by rw [len_bytes, hX]
  have rX : ∀ η, SV.renL η (bys X) = bys X := fun η => ren_bytes η X
  simp (config := { maxSteps := 1000000 }) only [cSh, tabSh, ↓gs, tm, hxl, lookF, reduceCtorEq, Nat.reduceEqDiff, Nat.reduceAdd, Nat.reduceSub, Nat.reduceLT, eq_self, frOf, ↓reduceIte, ↓fillE, Opd.ev, Sx.get, put, putO, del, dels, rd, upd, SV.cells?, canLW, canV, canC, belowL, apH, apH1, SV.ren, newOwn, targets, rms, Kind.isOwn, BB, ↓PB]
  rw [den_loop]
  have rz : ∀ η, SV.renL η z16 = z16 := fun η => SV.flatL_ren η z16 rfl
  have rC : ∀ η i, SV.renL η (cpC X i) = cpC X i := fun η i => cpC_ren η X i
  have sX : ∀ z : List SV, z.length = 32 → splice z 0 (bys X) = bys X := fun z hz => splice_all (by rw [hxl, hz])
  rw [sX]
  rotate_left
  · rfl
  refine den_inv cSh_ok (σ := Nat) (fun i => [(5, .int .i64 (i : Int)), (4, .ptr 3 0), (3, .ptr 2 0), (2, .ptr 1 0)]) (fun i => [(3, ⟨.own 36, cpC X i⟩), (2, ⟨.own 89, bys X⟩), (1, ⟨.own 36, z16⟩)]) (fun _ => 4)
    (fun i => i ≤ 16) (fun i => 16 - i) 0 ?_ (Nat.zero_le _) ?_
  · exact ⟨[(0, 0), (1, 0), (2, 0), (3, 0)], by simp only [rX, rC, rz, EntM, compat, apartM, keysBelow, eta, idHs, rd, Nat.reduceAdd, Nat.reduceSub, Nat.reduceEqDiff, Nat.reduceLT, Nat.reduceLeDiff, ↓reduceIte, Kind.isOwn, exists_eq_left', ne_eq, implies_true, false_imp_iff, forall_const, forall_eq_or_imp, forall_eq, BB] <;> exact ⟨rfl, rfl⟩, by simp [frEnt, geto, eta, SV.ren, Nat.reduceAdd, Nat.reduceEqDiff, Nat.reduceLT, Nat.reduceLeDiff, ↓reduceIte, BB]⟩
  · intro i hi
    have lC := cpC_len hX hi
    by_cases h16 : i < 16
    · obtain ⟨x, hx⟩ : ∃ x, X[i]? = some x := ⟨X[i], by simp⟩
      have gx := get_bysI hx
      have c1 : (i : Int) < 16 := by omega
      have c2 : (0 : Int) ≤ (i : Int) := by omega
      have c3 : (i : Int) < 32 := by omega
      have v4 : IntKind.i64.wrap ((i : Int) + 1) = ((i + 1 : Nat) : Int) := by rw [wrap64_eq (by omega) (by omega)]; omega
      have op := cpC_put hx h16
      simp (config := { maxSteps := 1000000 }) only [c1, c2, c3, gx, v4, lC, op, Nat.reduceEqDiff, Nat.reduceLeDiff, eq_self, ↓reduceIte, ↓binI, Opd.ev, Sx.get, put, putO, del, dels, rd, upd, SV.cells?, SV.one, BB, ↓PB]
      exact ⟨by omega, i + 1, ⟨[(0, 0), (1, 0), (2, 0), (3, 0)], by simp only [rX, rC, rz, EntM, compat, apartM, keysBelow, eta, idHs, rd, Nat.reduceAdd, Nat.reduceSub, Nat.reduceEqDiff, Nat.reduceLT, Nat.reduceLeDiff, ↓reduceIte, Kind.isOwn, exists_eq_left', ne_eq, implies_true, false_imp_iff, forall_const, forall_eq_or_imp, forall_eq, BB], by simp [frEnt, geto, eta, SV.ren, Nat.reduceAdd, Nat.reduceEqDiff, Nat.reduceLT, Nat.reduceLeDiff, ↓reduceIte, BB]⟩, by omega, by omega⟩
    · obtain rfl : i = 16 := by omega
      simp (config := { maxSteps := 1000000 }) only [lC, Nat.reduceEqDiff, Int.reduceLT, eq_self, ↓reduceIte, ↓binI, ↓evRes, Opd.ev, Sx.get, put, putO, del, dels, rd, upd, SV.cells?, retOf, BB, ↓PB]
      have tC : List.take 16 (cpC X 16) = cpC X 16 := List.take_of_length_le (by omega)
      have sC : splice z16 0 (cpC X 16) = cpC X 16 := splice_all (by rw [lC]; rfl)
      rw [tC, sC, tC]
      exact ⟨lC, by decide, by omega, cpC_all⟩
def gShort : GS
  | [.slc 0 0 1 len cap], [(0, ⟨.view, cells⟩)] => match unB cells with
    | some m => match capB cap m.length with
      | true => if len = m.length ∧ m.length ≤ 2 ^ 37 then some (.agg (bys ((sumS m).take 16)), [], 1) else none
      | _ => none
    | none => none
  | _, _ => none
theorem gShort_eq {m : List UInt8} {cap : Option Nat} (hm : m.length ≤ 2 ^ 37) (hcap : CapOk cap m.length) : gShort [.slc 0 0 1 m.length cap] [(0, ⟨.view, bys m⟩)] = some (.agg (bys ((sumS m).take 16)), [], 1) := by
  unfold gShort
  simp only [unB_bytes, capB_of hcap, hm, and_self, if_true]
theorem gShort_ok : FunS Tryd.prog tH2 55 gShort := by
  intro a0 m0 r m1 n1 h
  unfold gShort at h
  split at h
  · split at h
    · rename_i m hm
      split at h
      · rename_i hcap
        split at h
        · rename_i hc
          cases h
          obtain ⟨rfl, h2⟩ := hc
          rw [unB_some hm]
          exact ⟨f55 m h2 _ (capB_ok hcap), by simp [freshB]⟩
        · cases h
      · cases h
    · cases h
  · cases h
theorem gIn_eq {tag : Int} {ps : List (List UInt8)} {cap : Option Nat} (h : okT tag ps) (hcap : CapOk cap ps.length) : gIn [.int .i64 tag, .slc 0 0 1 ps.length cap] [(0, ⟨.view, strs ps⟩)] = some (.slc 1 0 1 (ofM tag ps).length none, [(1, ⟨.own 5, bys (ofM tag ps)⟩)], 2) := by
  unfold gIn
  simp only [unStr_strs, capB_of hcap, h, and_self, if_true]
def tabOR : List (FuncId × GS) := [(55, gShort), (56, gIn)]
theorem tabOR_ok : ∀ x ∈ tabOR, FunS Tryd.prog tH2 x.1 x.2 := by
  intro x hx
  simp only [tabOR, List.mem_cons, List.not_mem_nil, or_false] at hx
  rcases hx with rfl | rfl
  · exact gShort_ok
  · exact gIn_ok
def cOR : CallT := callS tabOR cF
theorem cOR_ok : ∀ f a m n K, cOR f a m n K → callT Tryd.prog tH2 f a m n K := callS_ok tabOR_ok cF_ok
theorem f40 (tag : Int) (ps : List (List UInt8)) (h : okT tag ps) (cap : Option Nat) (hcap : CapOk cap ps.length) :
    Fun Tryd.prog tH2 40 [.int .i64 tag, .slc 0 0 1 ps.length cap] [(0, ⟨.view, strs ps⟩)] 1 (.agg (bys (ofS tag ps))) [] 1 := by
  refine fun_val none cOR cOR_ok chk40 (show 2 ≤ 9 by decide) (fun η => by simp only [SV.ren, ren_bytes]) ?_
  unfold sf40 om oq ov
  have g1 := gIn_eq h hcap
  have ts : List.take ps.length (strs ps) = strs ps := List.take_of_length_le (by rw [len_strs]; omega)
  have g2 := gShort_eq (m := ofM tag ps) (cap := none) (by have := h.2.1; omega) (fun c hc => by cases hc)
  have tm := take_bytes (ofM tag ps)
  have hln := len_strs ps
  have hfs := flat_strs ps
  have e : (sumS (ofM tag ps)).take 16 = ofS tag ps := rfl
  have l16 : (ofS tag ps).length = 16 := ofS_len tag ps
  rw [e] at g2
  simp (config := { maxSteps := 1000000 }) only [cOR, tabOR, ↓g1, ↓g2, ts, tm, hln, hfs, l16, lookF, reduceCtorEq, Nat.reduceEqDiff, Nat.reduceAdd, Nat.reduceSub, Nat.reduceLT, eq_self, frOf, ↓reduceIte, ↓evRes, Opd.ev, Sx.get, put, putO, del, dels, rd, upd, SV.cells?, retOf, canLW, canV, canC, belowL, apH, apH1, eta, SV.ren, newOwn, targets, rms, Kind.isOwn, BB, ↓PB]
  have lO : (bys (ofS tag ps)).length = 16 := by rw [len_bytes, l16]
  have sO : ∀ z : List SV, z.length = 16 → splice z 0 (bys (ofS tag ps)) = bys (ofS tag ps) := fun z hz => splice_all (by rw [lO, hz])
  rw [sO]
  · exact ⟨by omega, List.take_of_length_le (by omega)⟩
  · rfl
def gOfR : GS
  | [.int .i64 tag, .slc 0 0 1 len cap], [(0, ⟨.view, cells⟩)] => match unStr cells with
    | some ps => match capB cap ps.length with
      | true => if len = ps.length ∧ okT tag ps then some (.agg (bys (ofS tag ps)), [], 1) else none
      | _ => none
    | none => none
  | _, _ => none
theorem gOfR_ok : FunS Tryd.prog tH2 40 gOfR := by
  intro a0 m0 r m1 n1 h
  unfold gOfR at h
  split at h
  · split at h
    · rename_i ps hps
      split at h
      · rename_i hcap
        split at h
        · rename_i hc
          cases h
          obtain ⟨rfl, h1⟩ := hc
          rw [unStr_some hps]
          exact ⟨f40 _ ps h1 _ (capB_ok hcap), by simp [freshB]⟩
        · cases h
      · cases h
    · cases h
  · cases h
end Go.Proofs.YtkfbkooobfepeaaDoor

/- One-time signatures: the chains. -/
namespace Go.Proofs.YtkfbkooobfepeaaDoor
open Go Go.Sx Sf
set_option maxRecDepth 100000
set_option linter.unusedVariables false
variable {tS : List (Nat × List SV)}
theorem tHH : ∀ x ∈ tH, x ∈ tH2 := by
  intro x hx
  simp only [tH, List.mem_singleton] at hx
  subst hx
  simp [tH2]
def advS (k : Nat) : Nat → Nat → List UInt8 → List UInt8
  | 0, _, v => v
  | c + 1, h, v => advS k c (h + 1) (ofS 4 [encI k, encI h, v])
theorem advS_len (k : Nat) : ∀ (c h : Nat) (v : List UInt8), v.length = 16 → (advS k c h v).length = 16
  | 0, _, _, hv => hv
  | c + 1, h, v, _ => advS_len k c (h + 1) _ (ofS_len _ _)
theorem okT_3 {tag : Int} {a b c : List UInt8} (ha : a.length ≤ 2 ^ 30) (hb : b.length ≤ 2 ^ 30) (hc : c.length ≤ 2 ^ 30) : okT tag [a, b, c] := by
  refine ⟨fun p hp => ?_, ?_, by simp⟩
  · simp only [List.mem_cons, List.not_mem_nil, or_false] at hp
    rcases hp with rfl | rfl | rfl <;> omega
  · have h1 := encI_len (a.length : Int)
    have h2 := encI_len (b.length : Int)
    have h3 := encI_len (c.length : Int)
    simp [ofM, encS]
    omega
theorem gOf_eq3 {tag : Int} {a b c : List UInt8} (ha : a.length ≤ 2 ^ 30) (hb : b.length ≤ 2 ^ 30) (hc : c.length ≤ 2 ^ 30) :
    gOf [.int .i64 tag, .slc 0 0 1 3 none] [(0, ⟨.view, [.str a, .str b, .str c]⟩)] = some (.agg (bys (ofS tag [a, b, c])), [], 1) := by
  unfold gOf
  simp only
  rw [show [SV.str a, SV.str b, SV.str c] = strs [a, b, c] from rfl, unStr_strs]
  simp only [capB, List.length_cons, List.length_nil]
  rw [if_pos ⟨trivial, okT_3 ha hb hc⟩]
theorem gOfR_eq3 {tag : Int} {a b c : List UInt8} (ha : a.length ≤ 2 ^ 30) (hb : b.length ≤ 2 ^ 30) (hc : c.length ≤ 2 ^ 30) :
    gOfR [.int .i64 tag, .slc 0 0 1 3 none] [(0, ⟨.view, [.str a, .str b, .str c]⟩)] = some (.agg (bys (ofS tag [a, b, c])), [], 1) := by
  unfold gOfR
  simp only
  rw [show [SV.str a, SV.str b, SV.str c] = strs [a, b, c] from rfl, unStr_strs]
  simp only [capB, List.length_cons, List.length_nil]
  rw [if_pos ⟨trivial, okT_3 ha hb hc⟩]
theorem f93 (n k : Int) (h1 : 0 ≤ n) (h2 : n ≤ k) : Fun Tryd.prog tS 93 [.int .i64 n, .int .i64 k] [] 0 (.bool true) [] 0 := by
  refine fun_pure none cF cF_ok chk93 (show 2 ≤ 12 by decide) (fun η => rfl) ?_
  unfold sf93 og om oq
  have c1 : n ≥ 0 := h1
  simp (config := { maxSteps := 1000000 }) only [c1, h2, setv, reduceCtorEq, Nat.reduceEqDiff, eq_self, frOf, setv, ↓reduceIte, ↓binI, ↓evRes, Opd.ev, Sx.get, put, putO, del, dels, retOf, BB, ↓PB]
def gWith : List SV → Option SV
  | [.int .i64 n, .int .i64 k] => if 0 ≤ n ∧ n ≤ k then some (.bool true) else none
  | _ => none
theorem gWith_eq {n k : Int} (h1 : 0 ≤ n) (h2 : n ≤ k) : gWith [.int .i64 n, .int .i64 k] = some (.bool true) := if_pos ⟨h1, h2⟩
def tabWd : Tab := ⟨[(93, gWith)], []⟩
theorem tabWd_ok : TabX Tryd.prog tS tabWd := by
  refine ⟨fun x h args r hr => ?_, fun x h => by simp [tabWd] at h⟩
  simp only [tabWd, List.mem_singleton] at h
  subst h
  simp only at hr
  unfold gWith at hr
  split at hr
  · split at hr
    · rename_i hc
      cases hr
      exact ⟨f93 _ _ hc.1 hc.2, fun η => by simp only [SV.renL, SV.ren], fun η => by simp only [SV.renL, SV.ren]⟩
    · cases hr
  · cases hr
def tabAv : List (FuncId × GS) := [(34, gInt), (39, gOf)]
theorem tabAv_ok : ∀ x ∈ tabAv, FunS Tryd.prog tH2 x.1 x.2 := by
  intro x hx
  simp only [tabAv, List.mem_cons, List.not_mem_nil, or_false] at hx
  rcases hx with rfl | rfl
  · exact gInt_ok
  · exact gOf_ok.more tHH
def cAv : CallT := callS tabAv (callX tabWd)
theorem cAv_ok : ∀ f a m n K, cAv f a m n K → callT Tryd.prog tH2 f a m n K := callS_ok tabAv_ok (callX_ok tabWd_ok)
set_option maxHeartbeats 4000000 in
theorem f80 (k h : Nat) (v : List UInt8) (hk : k ≤ 34) (hh : h ≤ 15) (hv : v.length = 16) :
    Fun Tryd.prog tH2 80 [.int .i64 (k : Int), .int .i64 (h : Int), .int .i64 15, .agg (bys v)] [] 0 (.agg (bys (advS k (15 - h) h v))) [] 0 := by
  refine fun_pure none cAv cAv_ok chk80 (show 4 ≤ 43 by decide) (fun η => by simp only [SV.ren, ren_bytes]) ?_
  unfold sf80 og oh om oq ov
  have hl : (bys v).length = 16 := by rw [len_bytes, hv]
  have w1 := gWith_eq (n := (k : Int)) (k := 34) (by omega) (by omega)
  have w2 := gWith_eq (n := (h : Int)) (k := 15) (by omega) (by omega)
  have w3 := gWith_eq (n := 15) (k := 15) (by omega) (by omega)
  have au := all_isU8 (encI (k : Int))
  have mb := map_byteOf (encI (k : Int))
  have tb := take_bytes (encI (k : Int))
  simp (config := { maxSteps := 1000000 }) only [cAv, tabAv, tabWd, gInt, ↓w1, ↓w2, ↓w3, au, mb, tb, SV.flatL, SV.flat, lookF, setv, reduceCtorEq, Nat.reduceEqDiff, Nat.reduceAdd, eq_self, frOf, setv, ↓reduceIte, Opd.ev, Sx.get, put, putO, del, dels, rd, SV.cells?, canLW, canV, belowL, apH, eta, SV.ren, newOwn, targets, rms, Kind.isOwn, BB, ↓PB]
  rw [den_loop]
  have rz : ∀ η, SV.renL η z16 = z16 := fun η => SV.flatL_ren η z16 rfl
  have rB : ∀ η b, SV.renL η (bys b) = bys b := fun η b => ren_bytes η b
  refine den_inv cAv_ok (σ := Nat × List UInt8) (fun x => [(10, .int .i64 (x.1 : Int)), (9, .str (encI (k : Int))), (8, .ptr 1 0), (7, .ptr 0 0), (2, .int .i64 15)]) (fun x => [(1, ⟨.own 36, z16⟩), (0, ⟨.own 36, bys x.2⟩)]) (fun _ => 2)
    (fun x => x.1 ≤ 15 ∧ x.2.length = 16 ∧ advS k (15 - x.1) x.1 x.2 = advS k (15 - h) h v) (fun x => 15 - x.1) (h, v) ?_ ⟨hh, hv, rfl⟩ ?_
  · exact ⟨[(0, 0), (1, 0)], by simp only [rB, rz, EntM, compat, apartM, keysBelow, eta, idHs, rd, Nat.reduceAdd, Nat.reduceSub, Nat.reduceLT, Nat.reduceLeDiff, ↓reduceIte, Kind.isOwn, exists_eq_left', ne_eq, implies_true, false_imp_iff, forall_const, reduceCtorEq, forall_eq, BB] <;> rfl, by simp [frEnt, geto, eta, SV.ren, Nat.reduceAdd, Nat.reduceEqDiff, Nat.reduceLeDiff, ↓reduceIte, BB]⟩
  · rintro ⟨j, u⟩ ⟨hj, hu, he⟩
    simp only at hj hu he ⊢
    have hlu : (bys u).length = 16 := by rw [len_bytes, hu]
    by_cases hj2 : j < 15
    · have c1 : (j : Int) < 15 := by omega
      have v4 : IntKind.i64.wrap ((j : Int) + 1) = ((j + 1 : Nat) : Int) := by rw [wrap64_eq (by omega) (by omega)]; omega
      have e1 := encI_len (k : Int)
      have e2 := encI_len (j : Int)
      have go := gOf_eq3 (tag := 4) (a := encI (k : Int)) (b := encI (j : Int)) (c := u) (by omega) (by omega) (by omega)
      have au1 := all_isU8 (encI (j : Int))
      have mb1 := map_byteOf (encI (j : Int))
      have tb1 := take_bytes (encI (j : Int))
      have au2 := all_isU8 u
      have mb2 := map_byteOf u
      have tb2 : List.take 16 (bys u) = bys u := List.take_of_length_le (by omega)
      rw [show 15 - j = (15 - (j + 1)) + 1 by omega] at he
      simp only [advS] at he
      have hO := ofS_len 4 [encI (k : Int), encI (j : Int), u]
      generalize ofS 4 [encI (k : Int), encI (j : Int), u] = O at *
      have lO : (bys O).length = 16 := by rw [len_bytes, hO]
      have dU : List.drop 16 (bys u) = [] := List.drop_of_length_le (by omega)
      simp (config := { maxSteps := 1000000 }) only [gInt, ↓go, hlu, c1, v4, au1, mb1, tb1, au2, mb2, tb2, lO, dU, SV.flatL, SV.flat, lookF, reduceCtorEq, Nat.reduceEqDiff, Nat.reduceAdd, Nat.reduceSub, Nat.reduceLeDiff, Nat.reduceLT, Int.reduceToNat, Int.reduceLE, eq_self, ↓reduceIte, ↓binI, ↓fillE, evA, Opd.ev, Sx.get, put, putO, del, dels, frD, memD, pickD, kills, views, newer, rd, upd, splice, SV.cells?, SV.one, canLW, canV, canC, belowL, apH, apH1, eta, SV.ren, newOwn, targets, rms, Kind.isOwn, BB, ↓PB]
      exact ⟨(j + 1, O), ⟨[(0, 0), (1, 0)], by simp only [rB, rz, EntM, compat, apartM, keysBelow, eta, idHs, rd, Nat.reduceAdd, Nat.reduceSub, Nat.reduceEqDiff, Nat.reduceLT, Nat.reduceLeDiff, ↓reduceIte, Kind.isOwn, exists_eq_left', ne_eq, implies_true, false_imp_iff, forall_const, reduceCtorEq, forall_eq, BB], by simp [frEnt, geto, eta, SV.ren, Nat.reduceAdd, Nat.reduceEqDiff, Nat.reduceLeDiff, ↓reduceIte, BB]⟩, ⟨by simp only; omega, hO, he⟩, by simp only; omega⟩
    · obtain rfl : j = 15 := by omega
      have tb2 : List.take 16 (bys u) = bys u := List.take_of_length_le (by omega)
      simp (config := { maxSteps := 1000000 }) only [hlu, tb2, reduceCtorEq, Nat.reduceEqDiff, Int.reduceLT, eq_self, ↓reduceIte, ↓binI, ↓evRes, Opd.ev, Sx.get, put, putO, del, dels, rd, upd, SV.cells?, retOf, BB, ↓PB]
      have e0 : u = advS k (15 - h) h v := he
      rw [← e0, splice_all (show (bys u).length = z16.length by rw [hlu]; rfl)]
      exact ⟨by decide, by omega, tb2⟩
def gAdv : List SV → Option SV
  | [.int .i64 (.ofNat k), .int .i64 (.ofNat h), .int .i64 15, .agg cells] => match unB cells with
    | some v => if k ≤ 34 ∧ h ≤ 15 ∧ v.length = 16 then some (.agg (bys (advS k (15 - h) h v))) else none
    | none => none
  | _ => none
theorem gAdv_eq {k h : Nat} {v : List UInt8} (hk : k ≤ 34) (hh : h ≤ 15) (hv : v.length = 16) : gAdv [.int .i64 (k : Int), .int .i64 (h : Int), .int .i64 15, .agg (bys v)] = some (.agg (bys (advS k (15 - h) h v))) := by
  show gAdv [.int .i64 (.ofNat k), .int .i64 (.ofNat h), .int .i64 15, .agg (bys v)] = _
  unfold gAdv
  simp only [unB_bytes]
  rw [if_pos ⟨hk, hh, hv⟩]
theorem gAdv_of {f : FuncId} (H : ∀ (k h : Nat) (v : List UInt8), k ≤ 34 → h ≤ 15 → v.length = 16 → Fun Tryd.prog tH2 f [.int .i64 (k : Int), .int .i64 (h : Int), .int .i64 15, .agg (bys v)] [] 0 (.agg (bys (advS k (15 - h) h v))) [] 0) : TabX Tryd.prog tH2 ⟨[(f, gAdv)], []⟩ := by
  refine ⟨fun x h args r hr => ?_, fun x h => by simp at h⟩
  simp only [List.mem_singleton] at h
  subst h
  simp only at hr
  unfold gAdv at hr
  split at hr
  · split at hr
    · rename_i v hv
      split at hr
      · rename_i hc
        cases hr
        rw [unB_some hv]
        exact ⟨H _ _ v hc.1 hc.2.1 hc.2.2, fun η => by simp only [SV.renL, SV.ren, ren_bytes], fun η => by simp only [SV.renL, SV.ren, ren_bytes]⟩
      · cases hr
    · cases hr
  · cases hr
theorem tabA80 : TabX Tryd.prog tH2 ⟨[(80, gAdv)], []⟩ := gAdv_of f80
theorem gIntR_eq {n : Int} (h : R64 n) : gIntR [.int .i64 n] [] = some (.slc 0 0 1 (encI n).length none, [(0, ⟨.own 5, bys (encI n)⟩)], 1) := by
  rw [enc_same h]; rfl
def tabAr : List (FuncId × GS) := [(38, gIntR), (37, gText), (40, gOfR)]
theorem tabAr_ok : ∀ x ∈ tabAr, FunS Tryd.prog tH2 x.1 x.2 := by
  intro x hx
  simp only [tabAr, List.mem_cons, List.not_mem_nil, or_false] at hx
  rcases hx with rfl | rfl | rfl
  · exact gIntR_ok
  · exact gText_ok
  · exact gOfR_ok
def cAr : CallT := callS tabAr cF
theorem cAr_ok : ∀ f a m n K, cAr f a m n K → callT Tryd.prog tH2 f a m n K := callS_ok tabAr_ok cF_ok
set_option maxHeartbeats 4000000 in
theorem f101 (k h : Nat) (v : List UInt8) (hk : k ≤ 34) (hh : h ≤ 15) (hv : v.length = 16) :
    Fun Tryd.prog tH2 101 [.int .i64 (k : Int), .int .i64 (h : Int), .int .i64 15, .agg (bys v)] [] 0 (.agg (bys (advS k (15 - h) h v))) [] 0 := by
  refine fun_pure none cAr cAr_ok chk101 (show 4 ≤ 50 by decide) (fun η => by simp only [SV.ren, ren_bytes]) ?_
  unfold sf101 og oh om oq ov
  have hl : (bys v).length = 16 := by rw [len_bytes, hv]
  have n1 : ¬ (k : Int) < 0 := by omega
  have n2 : ¬ (k : Int) > 34 := by omega
  have n3 : ¬ (h : Int) < 0 := by omega
  have n4 : ¬ (h : Int) > 15 := by omega
  simp (config := { maxSteps := 1000000 }) only [cAr, tabAr, n1, n2, n3, n4, Int.reduceGT, setv, reduceCtorEq, Nat.reduceEqDiff, Nat.reduceAdd, Int.reduceLT, eq_self, frOf, setv, ↓reduceIte, ↓binI, Opd.ev, Sx.get, put, putO, del, dels, SV.cells?, BB, ↓PB]
  rw [den_loop]
  have rz : ∀ η, SV.renL η z16 = z16 := fun η => SV.flatL_ren η z16 rfl
  have rB : ∀ η b, SV.renL η (bys b) = bys b := fun η b => ren_bytes η b
  refine den_inv cAr_ok (σ := Nat × List UInt8) (fun x => [(9, .int .i64 (x.1 : Int)), (8, .ptr 1 0), (7, .ptr 0 0), (2, .int .i64 15), (0, .int .i64 (k : Int))]) (fun x => [(1, ⟨.own 36, z16⟩), (0, ⟨.own 36, bys x.2⟩)]) (fun _ => 2)
    (fun x => x.1 ≤ 15 ∧ x.2.length = 16 ∧ advS k (15 - x.1) x.1 x.2 = advS k (15 - h) h v) (fun x => 15 - x.1) (h, v) ?_ ⟨hh, hv, rfl⟩ ?_
  · exact ⟨[(0, 0), (1, 0)], by simp only [rB, rz, EntM, compat, apartM, keysBelow, eta, idHs, rd, Nat.reduceAdd, Nat.reduceSub, Nat.reduceLT, Nat.reduceLeDiff, ↓reduceIte, Kind.isOwn, exists_eq_left', ne_eq, implies_true, false_imp_iff, forall_const, forall_eq, BB] <;> rfl, by simp [frEnt, geto, eta, SV.ren, Nat.reduceAdd, Nat.reduceEqDiff, Nat.reduceLeDiff, ↓reduceIte, reduceCtorEq, BB]⟩
  · rintro ⟨j, u⟩ ⟨hj, hu, he⟩
    simp only at hj hu he ⊢
    have hlu : (bys u).length = 16 := by rw [len_bytes, hu]
    by_cases hj2 : j < 15
    · have c1 : (j : Int) < 15 := by omega
      have v4 : IntKind.i64.wrap ((j : Int) + 1) = ((j + 1 : Nat) : Int) := by rw [wrap64_eq (by omega) (by omega)]; omega
      have e1 := encI_len (k : Int)
      have e2 := encI_len (j : Int)
      have go := gOfR_eq3 (tag := 4) (a := encI (k : Int)) (b := encI (j : Int)) (c := u) (by omega) (by omega) (by omega)
      have gi1 := gIntR_eq (n := (k : Int)) ⟨by omega, by omega⟩
      have gi2 := gIntR_eq (n := (j : Int)) ⟨by omega, by omega⟩
      have au0 := all_isU8 (encI (k : Int))
      have mb0 := map_byteOf (encI (k : Int))
      have tb0 := take_bytes (encI (k : Int))
      have au1 := all_isU8 (encI (j : Int))
      have mb1 := map_byteOf (encI (j : Int))
      have tb1 := take_bytes (encI (j : Int))
      have tb2 : List.take 16 (bys u) = bys u := List.take_of_length_le (by omega)
      rw [show 15 - j = (15 - (j + 1)) + 1 by omega] at he
      simp only [advS] at he
      have hO := ofS_len 4 [encI (k : Int), encI (j : Int), u]
      generalize ofS 4 [encI (k : Int), encI (j : Int), u] = O at *
      have lO : (bys O).length = 16 := by rw [len_bytes, hO]
      have dU : List.drop 16 (bys u) = [] := List.drop_of_length_le (by omega)
      have fb := flat_bytes u
      simp (config := { maxSteps := 1000000 }) only [gText, ↓gi1, ↓gi2, unB_bytes, ↓go, hlu, hu, fb, c1, v4, au0, mb0, tb0, au1, mb1, tb1, tb2, lO, dU, SV.flatL, SV.flat, lookF, reduceCtorEq, Nat.reduceEqDiff, Nat.reduceAdd, Nat.reduceSub, Nat.reduceLeDiff, Nat.reduceLT, eq_self, ↓reduceIte, ↓binI, ↓fillE, evA, Opd.ev, Sx.get, put, putO, del, dels, frD, memD, pickD, kills, views, newer, rd, upd, splice, SV.cells?, SV.one, canLW, canV, canC, belowL, apH, apH1, eta, SV.ren, newOwn, targets, rms, Kind.isOwn, BB, ↓PB]
      exact ⟨(j + 1, O), ⟨[(0, 0), (1, 0)], by simp only [rB, rz, EntM, compat, apartM, keysBelow, eta, idHs, rd, Nat.reduceAdd, Nat.reduceSub, Nat.reduceEqDiff, Nat.reduceLT, Nat.reduceLeDiff, ↓reduceIte, Kind.isOwn, exists_eq_left', ne_eq, implies_true, false_imp_iff, forall_const, reduceCtorEq, forall_eq, BB], by simp [frEnt, geto, eta, SV.ren, Nat.reduceAdd, Nat.reduceEqDiff, Nat.reduceLeDiff, ↓reduceIte, reduceCtorEq, BB]⟩, ⟨by simp only; omega, hO, he⟩, by simp only; omega⟩
    · obtain rfl : j = 15 := by omega
      have tb2 : List.take 16 (bys u) = bys u := List.take_of_length_le (by omega)
      simp (config := { maxSteps := 1000000 }) only [hlu, tb2, reduceCtorEq, Nat.reduceEqDiff, Int.reduceLT, eq_self, ↓reduceIte, ↓binI, ↓evRes, Opd.ev, Sx.get, put, putO, del, dels, rd, upd, SV.cells?, retOf, BB, ↓PB]
      have e0 : u = advS k (15 - h) h v := he
      rw [← e0, splice_all (show (bys u).length = z16.length by rw [hlu]; rfl)]
      exact ⟨by decide, by omega, tb2⟩
theorem tabA101 : TabX Tryd.prog tH2 ⟨[(101, gAdv)], []⟩ := gAdv_of f101
end Go.Proofs.YtkfbkooobfepeaaDoor

/- Merkle trees: leaves and nodes. -/
namespace Go.Proofs.YtkfbkooobfepeaaDoor
open Go Go.Sx Sf
set_option maxRecDepth 100000
set_option linter.unusedVariables false
variable {tS : List (Nat × List SV)}
theorem cStr_ok : ∀ f a m n K, callX tabStr f a m n K → callT Tryd.prog tH f a m n K := callX_ok tabStr_ok
set_option maxHeartbeats 4000000 in
theorem f99 (m : List UInt8) (hm : m.length < 2 ^ 40) (cap : Option Nat) : Fun Tryd.prog tH 99 [.slc 0 0 1 m.length cap] [(0, ⟨.view, bys m⟩)] 1 (.agg (bys (sumS m))) [] 1 := by
  refine fun_val none (callX tabStr) cStr_ok chk99 (show 1 ≤ 8 by decide) (fun η => by simp only [SV.ren, ren_bytes]) ?_
  unfold sf99 oh oq
  have tm := take_bytes m
  have au := all_isU8 m
  have mb := map_byteOf m
  have g0 : gBeg [] = some (.agg hs0.l) := rfl
  have ga := gAdd_eq (h := hs0) (t := m) rfl (by show 0 + m.length < 2 ^ 60; omega)
  have gs := gSum_eq (h := hs0.add m) (hs0_len _) (by rw [hs0_n]; omega)
  rw [hs0_n, HS.add_app] at gs
  have gs : gSum [.agg (hs0.add m).l] = some (.agg (bys (sumS m))) := gs
  have hx := sumS_len m
  generalize sumS m = X at *
  have lX : (bys X).length = 32 := by rw [len_bytes, hx]
  have tX : List.take 32 (bys X) = bys X := List.take_of_length_le (by omega)
  have hfl := HS.l_flat
  have hl := len_bytes m
  simp (config := { maxSteps := 1000000 }) only [tabStr, ↓g0, ↓ga, ↓gs, tm, au, mb, hfl, lX, tX, hl, SV.flatL, SV.flat, lookF, reduceCtorEq, Nat.reduceEqDiff, Nat.reduceAdd, eq_self, frOf, ↓reduceIte, ↓evRes, evA, Opd.ev, Sx.get, put, putO, del, dels, frD, memD, pickD, kills, views, newer, rd, upd, splice, SV.cells?, SV.one, retOf, BB, ↓PB]
def gHSum : GS
  | [.slc 0 0 1 len _], [(0, ⟨.view, cells⟩)] => match unB cells with
    | some m => if len = m.length ∧ m.length ≤ 2 ^ 37 then some (.agg (bys (sumS m)), [], 1) else none
    | none => none
  | _, _ => none
theorem gHSum_eq {m : List UInt8} {cap : Option Nat} (hm : m.length ≤ 2 ^ 37) : gHSum [.slc 0 0 1 m.length cap] [(0, ⟨.view, bys m⟩)] = some (.agg (bys (sumS m)), [], 1) := by
  unfold gHSum
  simp only [unB_bytes]
  rw [if_pos ⟨trivial, hm⟩]
theorem gHSum_ok : FunS Tryd.prog tH 99 gHSum := by
  intro a0 m0 r m1 n1 h
  unfold gHSum at h
  split at h
  · split at h
    · rename_i m hm
      split at h
      · rename_i hc
        cases h
        obtain ⟨rfl, h2⟩ := hc
        rw [unB_some hm]
        exact ⟨f99 m (by omega) _, by simp [freshB]⟩
      · cases h
    · cases h
  · cases h
def tabSm : List (FuncId × GS) := [(99, gHSum)]
theorem tabSm_ok : ∀ x ∈ tabSm, FunS Tryd.prog tH x.1 x.2 := by
  intro x hx
  simp only [tabSm, List.mem_cons, List.not_mem_nil, or_false] at hx
  subst hx
  exact gHSum_ok
theorem cSm_ok : ∀ f a m n K, callS tabSm cF f a m n K → callT Tryd.prog tH f a m n K := callS_ok tabSm_ok cF_ok
set_option maxHeartbeats 4000000 in
theorem f82 (m : List UInt8) (hm : m.length ≤ 2 ^ 37) (cap : Option Nat) : Fun Tryd.prog tH 82 [.slc 0 0 1 m.length cap] [(0, ⟨.view, bys m⟩)] 1 (.agg (bys ((sumS m).take 16))) [] 1 := by
  refine fun_val none (callS tabSm cF) cSm_ok chk82 (show 1 ≤ 9 by decide) (fun η => by simp only [SV.ren, ren_bytes]) ?_
  unfold sf82 om oq ov
  have tm := take_bytes m
  have gs := gHSum_eq (cap := cap) hm
  have hx := sumS_len m
  generalize sumS m = X at *
  have lX : (bys X).length = 32 := by rw [len_bytes, hx]
  have t16 : List.take 16 (bys X) = bys (X.take 16) := by simp [bys, List.map_take]
  have l16 : (X.take 16).length = 16 := by simp [hx]
  have lY : (bys (X.take 16)).length = 16 := by rw [len_bytes, l16]
  have tY : List.take 16 (bys (X.take 16)) = bys (X.take 16) := List.take_of_length_le (by omega)
  have hl := len_bytes m
  simp (config := { maxSteps := 1000000 }) only [tabSm, ↓gs, tm, lX, t16, lY, tY, hl, lookF, reduceCtorEq, Nat.reduceEqDiff, Nat.reduceAdd, Nat.reduceSub, Nat.reduceLeDiff, Nat.reduceLT, Int.reduceToNat, Int.reduceLE, eq_self, frOf, ↓reduceIte, ↓evRes, Opd.ev, Sx.get, put, putO, del, dels, rd, upd, splice, SV.cells?, retOf, canLW, canV, canC, belowL, apH, apH1, SV.ren, newOwn, targets, rms, Kind.isOwn, BB, ↓PB]
def tabBy : List (FuncId × GS) := [(33, gBytes)]
theorem tabBy'_ok : ∀ x ∈ tabBy, FunS Tryd.prog tS x.1 x.2 := tabBy_ok
theorem cBy_ok : ∀ f a m n K, callS tabBy cF f a m n K → callT Tryd.prog tS f a m n K := callS_ok tabBy'_ok cF_ok
set_option maxHeartbeats 4000000 in
theorem f107_1 (d : List UInt8) (hd : d.length = 16) (cap : Option Nat) : Fun Tryd.prog tS 107 [.int .u8 1, .slc 0 0 16 1 cap] [(0, ⟨.view, bys d⟩)] 1 (.slc 1 0 1 (ofM 1 [d]).length none) [(1, ⟨.own 5, bys (ofM 1 [d])⟩)] 2 := by
  refine fun_any none (callS tabBy cF) cBy_ok chk107 (show 2 ≤ 23 by decide) (by decide) ?_
  unfold sf107 om oq ov
  simp (config := { maxSteps := 1000000 }) only [tabBy, reduceCtorEq, Nat.reduceEqDiff, Nat.reduceAdd, eq_self, frOf, ↓reduceIte, ↓fillE, Opd.ev, Sx.get, put, putO, del, dels, splice, SV.cells?, SV.one, BB, ↓PB]
  rw [den_loop]
  refine den_unroll cBy_ok (callT_point _ _) 2 ?_
  have hl : (bys d).length = 16 := by rw [len_bytes, hd]
  have td := List.take_of_length_le (show (bys d).length ≤ 16 by omega)
  have au := all_isU8 d
  have mb := map_byteOf d
  have gb := gBytes_eq (s := d) (by omega)
  have te := take_bytes (encS d)
  have e1 : (ofM 1 [d]).length = 1 + (encS d).length := by simp [ofM]; omega
  have e2 : bys (ofM 1 [d]) = SV.int .u8 1 :: bys (encS d) := by simp [ofM, bys]; rfl
  have he : (encS d).length ≤ 100 := by have := encI_len (d.length : Int); simp [encS]; omega
  rw [e1, e2]
  simp (config := { maxSteps := 1000000 }) only [hl, td, au, mb, ↓gb, te, lookF, reduceCtorEq, Nat.reduceEqDiff, Nat.reduceAdd, Nat.reduceMul, Nat.reduceLT, Int.reduceToNat, Int.reduceLT, Int.reduceLE, Int.reduceAdd, Int.reduceNeg, eq_self, ↓reduceIte, ↓binI, ↓evRes, Opd.ev, Sx.get, put, putO, del, dels, rd, rm, upd, splice, SV.cells?, retOf, canLW, canV, belowL, apH, eta, SV.ren, newOwn, targets, rms, Kind.isOwn, BB, ↓PB]
  exact ⟨by omega, by omega, [(0, 0), (4, 0)], by simp [SV.ren, EntM, compat, apartM, keysBelow, eta, idHs, rd, SV.ren, SV.renL, Nat.reduceAdd, Nat.reduceLeDiff, ↓reduceIte, Kind.isOwn, exists_eq_left', ne_eq, implies_true, forall_const, BB], by simp [Nat.reduceAdd, Nat.reduceLeDiff, BB]⟩
set_option maxHeartbeats 4000000 in
theorem f107_2 (a b : List UInt8) (ha : a.length = 16) (hb : b.length = 16) (cap : Option Nat) : Fun Tryd.prog tS 107 [.int .u8 2, .slc 0 0 16 2 cap] [(0, ⟨.view, bys (a ++ b)⟩)] 1 (.slc 1 0 1 (ofM 2 [a, b]).length none) [(1, ⟨.own 5, bys (ofM 2 [a, b])⟩)] 2 := by
  refine fun_any none (callS tabBy cF) cBy_ok chk107 (show 2 ≤ 23 by decide) (by decide) ?_
  unfold sf107 om oq ov
  simp (config := { maxSteps := 1000000 }) only [tabBy, reduceCtorEq, Nat.reduceEqDiff, Nat.reduceAdd, eq_self, frOf, ↓reduceIte, ↓fillE, Opd.ev, Sx.get, put, putO, del, dels, splice, SV.cells?, SV.one, BB, ↓PB]
  rw [den_loop]
  refine den_unroll cBy_ok (callT_point _ _) 3 ?_
  have hl : (bys a).length = 16 := by rw [len_bytes, ha]
  have hlb : (bys b).length = 16 := by rw [len_bytes, hb]
  have hlab : (bys (a ++ b)).length = 32 := by rw [len_bytes, List.length_append]; omega
  have td := List.take_of_length_le (show (bys a).length ≤ 16 by omega)
  have tdb := List.take_of_length_le (show (bys b).length ≤ 16 by omega)
  have t1 : List.take 16 (bys (a ++ b)) = bys a := by rw [← bytes_app]; exact List.take_left' hl
  have t2 : List.take 16 (List.drop 16 (bys (a ++ b))) = bys b := by rw [← bytes_app, List.drop_left' hl]; exact tdb
  have au := all_isU8 a
  have mb := map_byteOf a
  have gb := gBytes_eq (s := a) (by omega)
  have te := take_bytes (encS a)
  have au2 := all_isU8 b
  have mb2 := map_byteOf b
  have gb2 := gBytes_eq (s := b) (by omega)
  have te2 := take_bytes (encS b)
  have e1 : (ofM 2 [a, b]).length = 1 + (encS a).length + (encS b).length := by simp [ofM]; omega
  have e2 : bys (ofM 2 [a, b]) = SV.int .u8 2 :: (bys (encS a) ++ bys (encS b)) := by simp [ofM, bys]; rfl
  have he : (encS a).length ≤ 100 := by have := encI_len (a.length : Int); simp [encS]; omega
  have he2 : (encS b).length ≤ 100 := by have := encI_len (b.length : Int); simp [encS]; omega
  have tt : List.take (1 + (encS a).length) (SV.int .u8 2 :: bys (encS a)) = SV.int .u8 2 :: bys (encS a) := List.take_of_length_le (by simp [len_bytes]; omega)
  rw [e1, e2]
  simp (config := { maxSteps := 1000000 }) only [hl, hlb, hlab, t1, t2, td, tdb, au, mb, ↓gb, te, au2, mb2, ↓gb2, te2, tt, lookF, reduceCtorEq, Nat.reduceEqDiff, Nat.reduceAdd, Nat.reduceMul, Nat.reduceLeDiff, Nat.reduceLT, Int.reduceToNat, Int.reduceLT, Int.reduceLE, Int.reduceAdd, Int.reduceNeg, eq_self, ↓reduceIte, ↓binI, ↓evRes, Opd.ev, Sx.get, put, putO, del, dels, rd, rm, upd, splice, SV.cells?, retOf, canLW, canV, belowL, apH, eta, SV.ren, newOwn, targets, rms, Kind.isOwn, BB, ↓PB]
  rw [← e2, ← e1]
  exact ⟨by omega, by omega, by omega, by omega, by omega, [(0, 0), (7, 0)], by simp [EntM, compat, apartM, keysBelow, eta, idHs, rd, Nat.reduceAdd, Nat.reduceLeDiff, ↓reduceIte, Kind.isOwn, exists_eq_left', ne_eq, implies_true, forall_const, BB], by simp [Nat.reduceAdd, Nat.reduceLeDiff, BB]⟩
def g107 : GS
  | [.int .u8 1, .slc 0 0 16 1 _], [(0, ⟨.view, cells⟩)] => match unB cells with
    | some d => if d.length = 16 then some (.slc 1 0 1 (ofM 1 [d]).length none, [(1, ⟨.own 5, bys (ofM 1 [d])⟩)], 2) else none
    | none => none
  | [.int .u8 2, .slc 0 0 16 2 _], [(0, ⟨.view, cells⟩)] => match unB cells with
    | some d => if d.length = 32 then some (.slc 1 0 1 (ofM 2 [d.take 16, d.drop 16]).length none, [(1, ⟨.own 5, bys (ofM 2 [d.take 16, d.drop 16])⟩)], 2) else none
    | none => none
  | _, _ => none
theorem g107_1 {d : List UInt8} {cap : Option Nat} (hd : d.length = 16) : g107 [.int .u8 1, .slc 0 0 16 1 cap] [(0, ⟨.view, bys d⟩)] = some (.slc 1 0 1 (ofM 1 [d]).length none, [(1, ⟨.own 5, bys (ofM 1 [d])⟩)], 2) := by
  unfold g107
  simp only [unB_bytes]
  rw [if_pos hd]
theorem g107_2 {a b : List UInt8} {cap : Option Nat} (ha : a.length = 16) (hb : b.length = 16) : g107 [.int .u8 2, .slc 0 0 16 2 cap] [(0, ⟨.view, bys a ++ bys b⟩)] = some (.slc 1 0 1 (ofM 2 [a, b]).length none, [(1, ⟨.own 5, bys (ofM 2 [a, b])⟩)], 2) := by
  unfold g107
  simp only
  rw [bytes_app, unB_bytes]
  simp only
  rw [if_pos (by simp [ha, hb]), List.take_left' ha, List.drop_left' ha]
theorem g107_ok : FunS Tryd.prog tS 107 g107 := by
  intro a0 m0 r m1 n1 h
  unfold g107 at h
  split at h
  · split at h
    · rename_i d hd
      split at h
      · rename_i hc
        cases h
        rw [unB_some hd]
        exact ⟨f107_1 d hc _, by simp [freshB]⟩
      · cases h
    · cases h
  · split at h
    · rename_i d hd
      split at h
      · rename_i hc
        cases h
        rw [unB_some hd]
        have := f107_2 (tS := tS) (d.take 16) (d.drop 16) (by simp; omega) (by simp; omega)
        rw [List.take_append_drop] at this
        exact ⟨this _, by simp [freshB]⟩
      · cases h
    · cases h
  · cases h
def tabIn : List (FuncId × GS) := [(107, g107)]
theorem tabIn_ok : ∀ x ∈ tabIn, FunS Tryd.prog tS x.1 x.2 := by
  intro x hx
  simp only [tabIn, List.mem_cons, List.not_mem_nil, or_false] at hx
  subst hx
  exact g107_ok
theorem cIn_ok : ∀ f a m n K, callS tabIn cF f a m n K → callT Tryd.prog tS f a m n K := callS_ok tabIn_ok cF_ok
theorem f97 (d : List UInt8) (hd : d.length = 16) : Fun Tryd.prog tS 97 [.agg (bys d)] [] 0 (.slc 0 0 1 (ofM 1 [d]).length none) [(0, ⟨.own 5, bys (ofM 1 [d])⟩)] 1 := by
  refine fun_any none (callS tabIn cF) cIn_ok chk97 (show 1 ≤ 6 by decide) (by decide) ?_
  unfold sf97 om oq
  have hl : (bys d).length = 16 := by rw [len_bytes, hd]
  have td := List.take_of_length_le (show (bys d).length ≤ 16 by omega)
  have g := g107_1 (cap := none) hd
  simp (config := { maxSteps := 1000000 }) only [tabIn, hl, td, ↓g, lookF, reduceCtorEq, Nat.reduceEqDiff, Nat.reduceAdd, Nat.reduceSub, Nat.reduceMul, Nat.reduceLT, eq_self, frOf, ↓reduceIte, ↓fillE, ↓evRes, Opd.ev, Sx.get, put, putO, del, dels, rd, splice, SV.cells?, retOf, canLW, canV, canC, belowL, apH, apH1, eta, SV.ren, newOwn, targets, rms, Kind.isOwn, BB, ↓PB]
  exact ⟨[(2, 0)], by simp [EntM, compat, apartM, keysBelow, eta, idHs, rd, ↓reduceIte, Kind.isOwn, exists_eq_left', ne_eq, implies_true, forall_const, BB], by simp [BB]⟩
theorem f98 (a b : List UInt8) (ha : a.length = 16) (hb : b.length = 16) : Fun Tryd.prog tS 98 [.agg (bys a), .agg (bys b)] [] 0 (.slc 0 0 1 (ofM 2 [a, b]).length none) [(0, ⟨.own 5, bys (ofM 2 [a, b])⟩)] 1 := by
  refine fun_any none (callS tabIn cF) cIn_ok chk98 (show 2 ≤ 9 by decide) (by decide) ?_
  unfold sf98 om oq
  have hl : (bys a).length = 16 := by rw [len_bytes, ha]
  have hlb : (bys b).length = 16 := by rw [len_bytes, hb]
  have td := List.take_of_length_le (show (bys a).length ≤ 16 by omega)
  have tdb := List.take_of_length_le (show (bys b).length ≤ 16 by omega)
  have g := g107_2 (cap := none) ha hb
  have sp : ∀ z : List SV, z.length = 32 → splice (splice z 0 (bys a)) 16 (bys b) = bys a ++ bys b := by
    intro z hz
    unfold splice
    rw [hl, hlb, List.take_zero, List.nil_append, List.take_left' hl]
    rw [List.drop_of_length_le (by simp [len_bytes, ha, hz])]
    simp
  have lsp : ∀ z : List SV, z.length = 32 → (splice z 0 (bys a)).length = 32 := by
    intro z hz
    unfold splice
    simp [len_bytes, ha, hz]
  have lab : (bys a ++ bys b).length = 32 := by simp [len_bytes, ha, hb]
  have fab : SV.flatL (bys a ++ bys b) = true := by rw [bytes_app]; exact flat_bytes _
  have tab : List.take 32 (bys a ++ bys b) = bys a ++ bys b := List.take_of_length_le (by omega)
  simp (config := { maxSteps := 1000000 }) only [tabIn, hl, hlb, td, tdb, sp, lsp, lab, fab, tab, ↓g, lookF, reduceCtorEq, Nat.reduceEqDiff, Nat.reduceAdd, Nat.reduceSub, Nat.reduceMul, Nat.reduceLeDiff, Nat.reduceLT, eq_self, frOf, ↓reduceIte, ↓fillE, ↓evRes, Opd.ev, Sx.get, put, putO, del, dels, rd, SV.cells?, retOf, canLW, canV, canC, belowL, apH, apH1, eta, SV.ren, newOwn, targets, rms, Kind.isOwn, BB, ↓PB]
  exact ⟨[(3, 0)], by simp [EntM, compat, apartM, keysBelow, eta, idHs, rd, ↓reduceIte, Kind.isOwn, exists_eq_left', ne_eq, implies_true, forall_const, BB], by simp [BB]⟩
end Go.Proofs.YtkfbkooobfepeaaDoor

/- Merkle trees: the split of a power of two. -/
namespace Go.Proofs.YtkfbkooobfepeaaDoor
open Go Go.Sx Sf
set_option maxRecDepth 100000
set_option linter.unusedVariables false
variable {tS : List (Nat × List SV)}
def P2 (j : Nat) : Int := ((2 ^ j : Nat) : Int)
theorem six {j : Nat} (hj : j < 6) : j = 0 ∨ j = 1 ∨ j = 2 ∨ j = 3 ∨ j = 4 ∨ j = 5 := by omega
theorem f111 (j : Nat) (hj : j < 6) : Fun Tryd.prog tS 111 [.int .u64 (P2 (j + 1) - 1)] [] 0 (.int .i64 ((j + 1 : Nat) : Int)) [] 0 := by
  rcases six hj with rfl | rfl | rfl | rfl | rfl | rfl
  · show Fun Tryd.prog tS 111 [.int .u64 1] [] 0 (.int .i64 1) [] 0
    refine fun_pure none cF cF_ok chk111 (show 1 ≤ 25 by decide) (fun η => rfl) ?_
    unfold sf111 om oq
    simp (config := { maxSteps := 1000000 }) only [Int.reduceGE, reduceCtorEq, Nat.reduceEqDiff, eq_self, frOf, ↓reduceIte, ↓binI, ↓evRes, Opd.ev, Sx.get, put, putO, del, dels, retOf, BB, ↓PB]
    exact ⟨by decide, rfl⟩
  · show Fun Tryd.prog tS 111 [.int .u64 3] [] 0 (.int .i64 2) [] 0
    refine fun_pure none cF cF_ok chk111 (show 1 ≤ 25 by decide) (fun η => rfl) ?_
    unfold sf111 om oq
    simp (config := { maxSteps := 1000000 }) only [Int.reduceGE, reduceCtorEq, Nat.reduceEqDiff, eq_self, frOf, ↓reduceIte, ↓binI, ↓evRes, Opd.ev, Sx.get, put, putO, del, dels, retOf, BB, ↓PB]
    exact ⟨by decide, rfl⟩
  · show Fun Tryd.prog tS 111 [.int .u64 7] [] 0 (.int .i64 3) [] 0
    refine fun_pure none cF cF_ok chk111 (show 1 ≤ 25 by decide) (fun η => rfl) ?_
    unfold sf111 om oq
    simp (config := { maxSteps := 1000000 }) only [Int.reduceGE, reduceCtorEq, Nat.reduceEqDiff, eq_self, frOf, ↓reduceIte, ↓binI, ↓evRes, Opd.ev, Sx.get, put, putO, del, dels, retOf, BB, ↓PB]
    exact ⟨by decide, rfl⟩
  · show Fun Tryd.prog tS 111 [.int .u64 15] [] 0 (.int .i64 4) [] 0
    refine fun_pure none cF cF_ok chk111 (show 1 ≤ 25 by decide) (fun η => rfl) ?_
    unfold sf111 om oq
    simp (config := { maxSteps := 1000000 }) only [Int.reduceGE, reduceCtorEq, Nat.reduceEqDiff, eq_self, frOf, ↓reduceIte, ↓binI, ↓evRes, Opd.ev, Sx.get, put, putO, del, dels, retOf, BB, ↓PB]
    exact ⟨by decide, rfl⟩
  · show Fun Tryd.prog tS 111 [.int .u64 31] [] 0 (.int .i64 5) [] 0
    refine fun_pure none cF cF_ok chk111 (show 1 ≤ 25 by decide) (fun η => rfl) ?_
    unfold sf111 om oq
    simp (config := { maxSteps := 1000000 }) only [Int.reduceGE, reduceCtorEq, Nat.reduceEqDiff, eq_self, frOf, ↓reduceIte, ↓binI, ↓evRes, Opd.ev, Sx.get, put, putO, del, dels, retOf, BB, ↓PB]
    exact ⟨by decide, rfl⟩
  · show Fun Tryd.prog tS 111 [.int .u64 63] [] 0 (.int .i64 6) [] 0
    refine fun_pure none cF cF_ok chk111 (show 1 ≤ 25 by decide) (fun η => rfl) ?_
    unfold sf111 om oq
    simp (config := { maxSteps := 1000000 }) only [Int.reduceGE, reduceCtorEq, Nat.reduceEqDiff, eq_self, frOf, ↓reduceIte, ↓binI, ↓evRes, Opd.ev, Sx.get, put, putO, del, dels, retOf, BB, ↓PB]
    exact ⟨by decide, rfl⟩
def gLen : List SV → Option SV
  | [.int .u64 n] => if n = 1 then some (.int .i64 1) else if n = 3 then some (.int .i64 2) else if n = 7 then some (.int .i64 3) else if n = 15 then some (.int .i64 4) else if n = 31 then some (.int .i64 5) else if n = 63 then some (.int .i64 6) else none
  | _ => none
theorem gLen_eq (j : Nat) (hj : j < 6) : gLen [.int .u64 (P2 (j + 1) - 1)] = some (.int .i64 ((j + 1 : Nat) : Int)) := by
  rcases six hj with rfl | rfl | rfl | rfl | rfl | rfl <;> rfl
theorem gLen_some {n : Int} {r : SV} (h : gLen [.int .u64 n] = some r) : ∃ j, j < 6 ∧ n = P2 (j + 1) - 1 ∧ r = .int .i64 ((j + 1 : Nat) : Int) := by
  unfold gLen at h
  simp only at h
  split at h
  · cases h; subst n; exact ⟨0, by decide, rfl, rfl⟩
  split at h
  · cases h; subst n; exact ⟨1, by decide, rfl, rfl⟩
  split at h
  · cases h; subst n; exact ⟨2, by decide, rfl, rfl⟩
  split at h
  · cases h; subst n; exact ⟨3, by decide, rfl, rfl⟩
  split at h
  · cases h; subst n; exact ⟨4, by decide, rfl, rfl⟩
  split at h
  · cases h; subst n; exact ⟨5, by decide, rfl, rfl⟩
  · cases h
theorem gLen_of {f : FuncId} (H : ∀ j, j < 6 → Fun Tryd.prog tS f [.int .u64 (P2 (j + 1) - 1)] [] 0 (.int .i64 ((j + 1 : Nat) : Int)) [] 0) : TabX Tryd.prog tS ⟨[(f, gLen)], []⟩ := by
  refine ⟨fun x h args r hr => ?_, fun x h => by simp at h⟩
  simp only [List.mem_singleton] at h
  subst h
  simp only at hr
  have : ∃ n, args = [.int .u64 n] := by
    unfold gLen at hr
    split at hr
    · exact ⟨_, rfl⟩
    · cases hr
  obtain ⟨n, rfl⟩ := this
  obtain ⟨j, hj, rfl, rfl⟩ := gLen_some hr
  exact ⟨H j hj, fun η => by simp only [SV.renL, SV.ren], fun η => by simp only [SV.renL, SV.ren]⟩
theorem f109 (j : Nat) (hj : j < 6) : Fun Tryd.prog tS 109 [.int .u64 (P2 (j + 1) - 1)] [] 0 (.int .i64 ((j + 1 : Nat) : Int)) [] 0 := by
  refine fun_pure none (callX ⟨[(111, gLen)], []⟩) (callX_ok (gLen_of f111)) chk109 (show 1 ≤ 8 by decide) (fun η => rfl) ?_
  unfold sf109 om oq
  have g := gLen_eq j hj
  simp (config := { maxSteps := 1000000 }) only [↓g, SV.flatL, SV.flat, lookF, reduceCtorEq, Nat.reduceEqDiff, eq_self, frOf, ↓reduceIte, ↓evRes, Opd.ev, Sx.get, put, putO, del, dels, retOf, BB, ↓PB]
theorem f106 (j : Nat) (hj : j < 6) : Fun Tryd.prog tS 106 [.int .i64 (P2 (j + 1))] [] 0 (.int .i64 (P2 j)) [] 0 := by
  refine fun_pure none (callX ⟨[(109, gLen)], []⟩) (callX_ok (gLen_of f109)) chk106 (show 1 ≤ 9 by decide) (fun η => rfl) ?_
  unfold sf106 om oq
  have g := gLen_eq j hj
  have h1 : P2 (j + 1) ≤ 64 ∧ 2 ≤ P2 (j + 1) := by rcases six hj with rfl | rfl | rfl | rfl | rfl | rfl <;> decide
  have w1 : IntKind.i64.wrap (P2 (j + 1) - 1) = P2 (j + 1) - 1 := wrap64_eq (by omega) (by omega)
  have w2 : IntKind.u64.wrap (P2 (j + 1) - 1) = P2 (j + 1) - 1 := by
    rw [show IntKind.u64.wrap (P2 (j + 1) - 1) = (P2 (j + 1) - 1) % 18446744073709551616 by simp [IntKind.wrap, IntKind.bits, IntKind.signed]]; omega
  have w3 : IntKind.i64.wrap (((j + 1 : Nat) : Int) - 1) = (j : Int) := by rw [wrap64_eq (by omega) (by omega)]; omega
  have c0 : (0 : Int) ≤ (j : Int) := by omega
  have w4 : IntKind.i64.wrap (1 * 2 ^ (min j IntKind.i64.bits)) = P2 j := by
    rcases six hj with rfl | rfl | rfl | rfl | rfl | rfl <;> rfl
  simp (config := { maxSteps := 1000000 }) only [w1, w2, ↓g, w3, c0, w4, SV.flatL, SV.flat, lookF, reduceCtorEq, Nat.reduceEqDiff, eq_self, frOf, ↓reduceIte, ↓binI, ↓evRes, Opd.ev, Sx.get, put, putO, del, dels, retOf, BB, ↓PB]
theorem f103 (j : Nat) (hj : j < 6) : Fun Tryd.prog tS 103 [.int .i64 (P2 (j + 1))] [] 0 (.int .i64 (P2 j)) [] 0 := by
  refine fun_pure (some 8) cF cF_ok chk103 (show 1 ≤ 12 by decide) (fun η => rfl) ?_
  unfold sf103 om oq
  rcases six hj with rfl | rfl | rfl | rfl | rfl | rfl
  all_goals
    simp (config := { maxSteps := 1000000 }) only [P2, Nat.reducePow, Nat.reduceAdd, reduceCtorEq, Nat.reduceEqDiff, Nat.reduceAdd, Int.reduceLT, Int.reduceLE, Int.reduceSub, Int.reduceMul, Int.reduceNeg, eq_self, frOf, ↓reduceIte, ↓binI, ↓evRes, Opd.ev, Sx.get, put, putO, del, dels, retOf, BB, ↓PB]
def gSpl : List SV → Option SV
  | [.int .i64 n] => if n = 2 then some (.int .i64 1) else if n = 4 then some (.int .i64 2) else if n = 8 then some (.int .i64 4) else if n = 16 then some (.int .i64 8) else if n = 32 then some (.int .i64 16) else if n = 64 then some (.int .i64 32) else none
  | _ => none
theorem gSpl_eq (j : Nat) (hj : j < 6) : gSpl [.int .i64 (P2 (j + 1))] = some (.int .i64 (P2 j)) := by
  rcases six hj with rfl | rfl | rfl | rfl | rfl | rfl <;> rfl
theorem gSpl_some {n : Int} {r : SV} (h : gSpl [.int .i64 n] = some r) : ∃ j, j < 6 ∧ n = P2 (j + 1) ∧ r = .int .i64 (P2 j) := by
  unfold gSpl at h
  simp only at h
  split at h
  · cases h; subst n; exact ⟨0, by decide, rfl, rfl⟩
  split at h
  · cases h; subst n; exact ⟨1, by decide, rfl, rfl⟩
  split at h
  · cases h; subst n; exact ⟨2, by decide, rfl, rfl⟩
  split at h
  · cases h; subst n; exact ⟨3, by decide, rfl, rfl⟩
  split at h
  · cases h; subst n; exact ⟨4, by decide, rfl, rfl⟩
  split at h
  · cases h; subst n; exact ⟨5, by decide, rfl, rfl⟩
  · cases h
theorem gSpl_of {f : FuncId} (H : ∀ j, j < 6 → Fun Tryd.prog tS f [.int .i64 (P2 (j + 1))] [] 0 (.int .i64 (P2 j)) [] 0) : TabX Tryd.prog tS ⟨[(f, gSpl)], []⟩ := by
  refine ⟨fun x h args r hr => ?_, fun x h => by simp at h⟩
  simp only [List.mem_singleton] at h
  subst h
  simp only at hr
  have : ∃ n, args = [.int .i64 n] := by
    unfold gSpl at hr
    split at hr
    · exact ⟨_, rfl⟩
    · cases hr
  obtain ⟨n, rfl⟩ := this
  obtain ⟨j, hj, rfl, rfl⟩ := gSpl_some hr
  exact ⟨H j hj, fun η => by simp only [SV.renL, SV.ren], fun η => by simp only [SV.renL, SV.ren]⟩
end Go.Proofs.YtkfbkooobfepeaaDoor

/- Merkle trees: the path of an index. -/
namespace Go.Proofs.YtkfbkooobfepeaaDoor
open Go Go.Sx Sf
set_option maxRecDepth 100000
set_option linter.unusedVariables false
variable {tS : List (Nat × List SV)}
def bls (l : List Bool) : List SV := l.map SV.bool
theorem flat_bls : ∀ l : List Bool, SV.flatL (bls l) = true
  | [] => rfl
  | b :: l => by simp only [bls, List.map_cons, SV.flatL, SV.flat, Bool.true_and]; exact flat_bls l
theorem ren_bls (η : Nat → Nat × Nat) (l : List Bool) : SV.renL η (bls l) = bls l := SV.flatL_ren η _ (flat_bls l)
theorem len_bls (l : List Bool) : (bls l).length = l.length := by simp [bls]
theorem take_bls (l : List Bool) : List.take l.length (bls l) = bls l := List.take_of_length_le (by rw [len_bls]; omega)
theorem app_bls (l : List Bool) (b : Bool) : bls l ++ [.bool b] = bls (l ++ [b]) := by simp [bls]
def bitB (i t : Nat) : Bool := decide (i / 2 ^ t % 2 = 1)
def bD (i h : Nat) : Nat → List Bool
  | 0 => []
  | c + 1 => bD i h c ++ [bitB i (h - 1 - c)]
theorem bD_len (i h : Nat) : ∀ c, (bD i h c).length = c
  | 0 => rfl
  | c + 1 => by simp [bD, bD_len i h c]
def atN (i j : Nat) : Nat := i / 2 ^ j * 2 ^ j
theorem at_facts : ∀ i : Fin 64, ∀ j : Fin 6, atN i (j + 1) + (if bitB i j = true then 2 ^ j.val else 0) = atN i j ∧ (decide ((i.val : Int) - (atN i (j + 1) : Int) < P2 j) = !bitB i j) ∧ atN i j ≤ i := by decide
theorem f95a (x y z v : Int) : Fun Tryd.prog tS 95 [.int .i64 x, .int .i64 y, .int .i64 z, .int .i64 v, .ptr 0 0] [(0, ⟨.own 138, [.val (.slice none 0 0)]⟩)] 1 (.tup []) [(0, ⟨.own 138, [.slc 1 0 1 1 none]⟩), (1, ⟨.own 4, bls [decide (z < x)]⟩)] 2 := by
  refine fun_any none cF cF_ok chk95 (show 5 ≤ 15 by decide) (by decide) ?_
  unfold sf95 om oq ov
  simp (config := { maxSteps := 1000000 }) only [reduceCtorEq, Nat.reduceEqDiff, Nat.reduceAdd, eq_self, frOf, ↓reduceIte, ↓binI, ↓fillE, ↓evRes, Opd.ev, Sx.get, put, putO, del, dels, rd, upd, splice, SV.cells?, SV.one, retOf, SV.ren, SV.renL, BB, ↓PB]
  exact ⟨by omega, by omega, [(0, 0), (2, 0)], by simp [bls, SV.ren, EntM, compat, apartM, keysBelow, eta, idHs, rd, SV.ren, SV.renL, Nat.reduceAdd, Nat.reduceLeDiff, ↓reduceIte, Kind.isOwn, exists_eq_left', ne_eq, implies_true, forall_const, reduceCtorEq, forall_eq, BB]⟩
theorem f95b (x y z v : Int) (l : List Bool) (hl : l.length ≤ 1000) : Fun Tryd.prog tS 95 [.int .i64 x, .int .i64 y, .int .i64 z, .int .i64 v, .ptr 0 0] [(0, ⟨.own 138, [.slc 1 0 1 l.length none]⟩), (1, ⟨.own 4, bls l⟩)] 2 (.tup [])
    [(0, ⟨.own 138, [.slc 2 0 1 (l.length + 1) none]⟩), (2, ⟨.own 4, bls (l ++ [decide (z < x)])⟩)] 3 := by
  refine fun_any none cF cF_ok chk95 (show 5 ≤ 15 by decide) (by decide) ?_
  unfold sf95 om oq ov
  have hl := len_bls l
  have tl := take_bls l
  simp (config := { maxSteps := 1000000 }) only [hl, tl, app_bls, reduceCtorEq, Nat.reduceEqDiff, Nat.reduceAdd, eq_self, frOf, ↓reduceIte, ↓binI, ↓fillE, ↓evRes, Opd.ev, Sx.get, put, putO, del, dels, rd, rm, upd, splice, SV.cells?, SV.one, retOf, SV.ren, SV.renL, BB, ↓PB]
  exact ⟨by omega, by omega, [(0, 0), (1, 0), (3, 0)], rfl, by simp [ren_bls, compat, apartM, keysBelow, eta, idHs, rd, SV.ren, SV.renL, Nat.reduceAdd, Nat.reduceLeDiff, ↓reduceIte, Kind.isOwn, exists_eq_left', ne_eq, implies_true, forall_const, reduceCtorEq, forall_eq, BB]⟩
def cDs : CallT := callAnd 95 (callT Tryd.prog tS) (callX ⟨[(106, gSpl)], []⟩)
theorem cDs_ok : ∀ f a m n K, cDs (tS := tS) f a m n K → callT Tryd.prog tS f a m n K := callAnd_ok (callX_ok (gSpl_of f106))
set_option maxHeartbeats 8000000 in
theorem f94 (h i : Nat) (hh : h ≤ 6) (hi : i < 2 ^ h) : Fun Tryd.prog tS 94 [.int .i64 (P2 h), .int .i64 (i : Int), .fn 95 [] [.ptr 0 0]] [(0, ⟨.own 138, [.val (.slice none 0 0)]⟩)] 1 (.tup [])
    (nlM 1 4 (bls (bD i h h)) [(0, ⟨.own 138, [nlS 1 1 h]⟩)] h) (nlN 1 h) := by
  refine fun_any none cDs cDs_ok chk94 (show 3 ≤ 44 by decide) (by cases h <;> simp [nlN]) ?_
  unfold sf94 om oq
  have hi64 : i < 64 := Nat.lt_of_lt_of_le hi (Nat.pow_le_pow_right (by decide) hh)
  have at0 : atN i h = 0 := by unfold atN; rw [Nat.div_eq_of_lt hi]; simp
  simp (config := { maxSteps := 1000000 }) only [cDs, reduceCtorEq, Nat.reduceEqDiff, Nat.reduceAdd, frOf, ↓reduceIte, Opd.ev, put, putO, del, dels, BB, ↓PB]
  rw [den_loop]
  refine den_inv cDs_ok (σ := Nat) (fun c => [(6, .int .i64 (atN i (h - c) : Int)), (0, .int .i64 (P2 (h - c))), (1, .int .i64 (i : Int)), (2, .fn 95 [] [.ptr 0 0])])
    (fun c => nlM 1 4 (bls (bD i h c)) [(0, ⟨.own 138, [nlS 1 1 c]⟩)] c) (fun c => nlN 1 c) (fun c => c ≤ h) (fun c => h - c) 0 ?_ (Nat.zero_le _) ?_
  · exact ⟨[(0, 0)], by simp [EntM, compat, apartM, keysBelow, eta, idHs, rd, SV.ren, SV.renL, ↓reduceIte, Kind.isOwn, exists_eq_left', ne_eq, implies_true, forall_const, BB], by simp [at0, frEnt, geto, eta, SV.ren, SV.renL, Nat.reduceEqDiff, ↓reduceIte, reduceCtorEq, BB]⟩
  · intro c hc
    by_cases hch : c < h
    · obtain ⟨j, hj⟩ : ∃ j, h - c = j + 1 := ⟨h - c - 1, by omega⟩
      have hj6 : j < 6 := by omega
      have hj' : h - (c + 1) = j := by omega
      have hj2 : h - 1 - c = j := by omega
      rw [hj]
      have g := gSpl_eq j hj6
      obtain ⟨a1, a2, a3⟩ := at_facts ⟨i, hi64⟩ ⟨j, hj6⟩
      simp only at a1 a2 a3
      have p1 : P2 (j + 1) = P2 j + P2 j := by unfold P2; rw [Nat.pow_succ]; omega
      have p2 : 1 ≤ P2 j ∧ P2 j ≤ 32 := by rcases six hj6 with rfl | rfl | rfl | rfl | rfl | rfl <;> decide
      have p3 : (2 ^ j : Nat) = (P2 j).toNat := by unfold P2; exact (Int.toNat_natCast _).symm
      have c1 : P2 (j + 1) > 1 := by omega
      have a4 : atN i (j + 1) ≤ 63 := by split at a1 <;> omega
      have w1 : IntKind.i64.wrap ((i : Int) - (atN i (j + 1) : Int)) = (i : Int) - (atN i (j + 1) : Int) := wrap64_eq (by omega) (by omega)
      have w2 : IntKind.i64.wrap ((atN i (j + 1) : Int) + P2 j) = (atN i (j + 1) : Int) + P2 j := wrap64_eq (by omega) (by omega)
      have w3 : IntKind.i64.wrap (P2 (j + 1) - P2 j) = P2 j := by rw [wrap64_eq (by omega) (by omega)]; omega
      have z1 : decide ((atN i (j + 1) : Int) + P2 j < (atN i (j + 1) : Int)) = false := by simp; omega
      have z2 : decide ((atN i (j + 1) : Int) < (atN i (j + 1) : Int) + P2 j) = true := by simp; omega
      have hb : bD i h (c + 1) = bD i h c ++ [bitB i j] := by simp only [bD, hj2]
      have hbl := bD_len i h c
      cases hbit : bitB i j with
      | false =>
        rw [hbit] at a1 a2 hb
        simp only [Bool.not_false, Bool.false_eq_true, if_false, Nat.add_zero] at a1 a2
        have e4 : (atN i j : Int) = (atN i (j + 1) : Int) := by rw [a1]
        rcases Nat.eq_zero_or_pos c with h0 | h0
        · simp only [nlS_z h0, nlM_z h0, nlN_z h0]
          simp (config := { maxSteps := 1000000 }) only [c1, ↓g, w1, w2, w3, a2, SV.flatL, SV.flat, lookF, reduceCtorEq, Nat.reduceEqDiff, eq_self, ↓reduceIte, ↓binI, Opd.ev, Sx.get, put, putO, del, dels, BB, ↓PB]
          refine ⟨[(0, 0)], _, _, _, _, 2, f95a _ _ _ _, rfl, ⟨⟨_, rfl, rfl, rfl, rfl⟩, trivial⟩, ⟨by simp, trivial⟩, ⟨by decide, trivial⟩, by simp, ⟨fun _ => rfl, fun _ => rfl, trivial⟩, ?_⟩
          have hb0 : bls (bD i h (c + 1)) = bls [false] := by rw [hb, h0]; rfl
          simp (config := { maxSteps := 1000000 }) only [z1, ren_bls, reduceCtorEq, Nat.reduceEqDiff, Nat.reduceAdd, Nat.reduceSub, eq_self, ↓reduceIte, Opd.ev, Sx.get, put, putO, del, dels, rm, eta, SV.ren, SV.renL, newOwn, targets, rms, Kind.isOwn, BB, ↓PB]
          refine ⟨c + 1, ?_, by omega, by omega⟩
          simp only [nlS_p (Nat.succ_pos c), nlM_p (Nat.succ_pos c), nlN_p (Nat.succ_pos c), hb0, e4, hj']
          exact ⟨[(0, 0), (1, 0)], by simp [ren_bls, SV.ren, h0, EntM, compat, apartM, keysBelow, eta, idHs, rd, SV.ren, SV.renL, Nat.reduceAdd, Nat.reduceLeDiff, ↓reduceIte, Kind.isOwn, exists_eq_left', ne_eq, implies_true, forall_const, forall_eq, BB], by simp [frEnt, geto, eta, SV.ren, SV.renL, Nat.reduceAdd, Nat.reduceEqDiff, ↓reduceIte, reduceCtorEq, BB]⟩
        · simp only [nlS_p h0, nlM_p h0, nlN_p h0]
          simp (config := { maxSteps := 1000000 }) only [c1, ↓g, w1, w2, w3, a2, SV.flatL, SV.flat, lookF, reduceCtorEq, Nat.reduceEqDiff, Nat.reduceAdd, eq_self, ↓reduceIte, ↓binI, Opd.ev, Sx.get, put, putO, del, dels, BB, ↓PB]
          have F := fun x y z v => f95b (tS := tS) x y z v (bD i h c) (by omega)
          rw [hbl] at F
          refine ⟨[(0, 0), (1, 0)], _, _, _, _, 3, F _ _ _ _, rfl, ⟨⟨_, rfl, rfl, rfl, rfl⟩, ⟨_, rfl, rfl, rfl, (ren_bls _ _).symm⟩, trivial⟩, ⟨by intro x hx; simp at hx; subst hx; intro _; simp [eta], ⟨by simp, trivial⟩⟩, ⟨by decide, by decide, trivial⟩,
            by intro x hx; simp at hx; rcases hx with rfl | rfl <;> decide, ⟨fun _ => rfl, fun _ => rfl, trivial⟩, ?_⟩
          simp (config := { maxSteps := 1000000 }) only [z1, ren_bls, reduceCtorEq, Nat.reduceEqDiff, Nat.reduceAdd, Nat.reduceSub, eq_self, ↓reduceIte, Opd.ev, Sx.get, put, putO, del, dels, rm, eta, SV.ren, SV.renL, newOwn, targets, rms, Kind.isOwn, BB, ↓PB]
          refine ⟨c + 1, ?_, by omega, by omega⟩
          simp only [nlS_p (Nat.succ_pos c), nlM_p (Nat.succ_pos c), nlN_p (Nat.succ_pos c), hb, e4, hj']
          exact ⟨[(0, 0), (2, 0)], by simp [ren_bls, SV.ren, EntM, compat, apartM, keysBelow, eta, idHs, rd, SV.ren, SV.renL, Nat.reduceAdd, Nat.reduceLeDiff, ↓reduceIte, Kind.isOwn, exists_eq_left', ne_eq, implies_true, forall_const, reduceCtorEq, forall_eq, BB], by simp [frEnt, geto, eta, SV.ren, SV.renL, Nat.reduceAdd, Nat.reduceEqDiff, ↓reduceIte, reduceCtorEq, BB]⟩
      | true =>
        rw [hbit] at a1 a2 hb
        simp only [Bool.not_true, if_true] at a1 a2
        have e4 : (atN i j : Int) = (atN i (j + 1) : Int) + P2 j := by rw [← a1]; unfold P2; omega
        rcases Nat.eq_zero_or_pos c with h0 | h0
        · simp only [nlS_z h0, nlM_z h0, nlN_z h0]
          simp (config := { maxSteps := 1000000 }) only [c1, ↓g, w1, w2, w3, a2, SV.flatL, SV.flat, lookF, reduceCtorEq, Nat.reduceEqDiff, eq_self, ↓reduceIte, ↓binI, Opd.ev, Sx.get, put, putO, del, dels, BB, ↓PB]
          refine ⟨[(0, 0)], _, _, _, _, 2, f95a _ _ _ _, rfl, ⟨⟨_, rfl, rfl, rfl, rfl⟩, trivial⟩, ⟨by simp, trivial⟩, ⟨by decide, trivial⟩, by simp, ⟨fun _ => rfl, fun _ => rfl, trivial⟩, ?_⟩
          have hb0 : bls (bD i h (c + 1)) = bls [true] := by rw [hb, h0]; rfl
          simp (config := { maxSteps := 1000000 }) only [w2, w3, z2, ren_bls, reduceCtorEq, Nat.reduceEqDiff, Nat.reduceAdd, Nat.reduceSub, eq_self, ↓reduceIte, ↓binI, Opd.ev, Sx.get, put, putO, del, dels, rm, eta, SV.ren, SV.renL, newOwn, targets, rms, Kind.isOwn, BB, ↓PB]
          refine ⟨c + 1, ?_, by omega, by omega⟩
          simp only [nlS_p (Nat.succ_pos c), nlM_p (Nat.succ_pos c), nlN_p (Nat.succ_pos c), hb0, e4, hj']
          exact ⟨[(0, 0), (1, 0)], by simp [ren_bls, SV.ren, h0, EntM, compat, apartM, keysBelow, eta, idHs, rd, SV.ren, SV.renL, Nat.reduceAdd, Nat.reduceLeDiff, ↓reduceIte, Kind.isOwn, exists_eq_left', ne_eq, implies_true, forall_const, forall_eq, BB], by simp [frEnt, geto, eta, SV.ren, SV.renL, Nat.reduceAdd, Nat.reduceEqDiff, ↓reduceIte, reduceCtorEq, BB]⟩
        · simp only [nlS_p h0, nlM_p h0, nlN_p h0]
          simp (config := { maxSteps := 1000000 }) only [c1, ↓g, w1, w2, w3, a2, SV.flatL, SV.flat, lookF, reduceCtorEq, Nat.reduceEqDiff, Nat.reduceAdd, eq_self, ↓reduceIte, ↓binI, Opd.ev, Sx.get, put, putO, del, dels, BB, ↓PB]
          have F := fun x y z v => f95b (tS := tS) x y z v (bD i h c) (by omega)
          rw [hbl] at F
          refine ⟨[(0, 0), (1, 0)], _, _, _, _, 3, F _ _ _ _, rfl, ⟨⟨_, rfl, rfl, rfl, rfl⟩, ⟨_, rfl, rfl, rfl, (ren_bls _ _).symm⟩, trivial⟩, ⟨by intro x hx; simp at hx; subst hx; intro _; simp [eta], ⟨by simp, trivial⟩⟩, ⟨by decide, by decide, trivial⟩,
            by intro x hx; simp at hx; rcases hx with rfl | rfl <;> decide, ⟨fun _ => rfl, fun _ => rfl, trivial⟩, ?_⟩
          simp (config := { maxSteps := 1000000 }) only [w2, w3, z2, ren_bls, reduceCtorEq, Nat.reduceEqDiff, Nat.reduceAdd, Nat.reduceSub, eq_self, ↓reduceIte, ↓binI, Opd.ev, Sx.get, put, putO, del, dels, rm, eta, SV.ren, SV.renL, newOwn, targets, rms, Kind.isOwn, BB, ↓PB]
          refine ⟨c + 1, ?_, by omega, by omega⟩
          simp only [nlS_p (Nat.succ_pos c), nlM_p (Nat.succ_pos c), nlN_p (Nat.succ_pos c), hb, e4, hj']
          exact ⟨[(0, 0), (2, 0)], by simp [ren_bls, SV.ren, EntM, compat, apartM, keysBelow, eta, idHs, rd, SV.ren, SV.renL, Nat.reduceAdd, Nat.reduceLeDiff, ↓reduceIte, Kind.isOwn, exists_eq_left', ne_eq, implies_true, forall_const, reduceCtorEq, forall_eq, BB], by simp [frEnt, geto, eta, SV.ren, SV.renL, Nat.reduceAdd, Nat.reduceEqDiff, ↓reduceIte, reduceCtorEq, BB]⟩
    · obtain rfl : c = h := by omega
      rw [Nat.sub_self]
      have c3 : decide (P2 0 > 1) = false := rfl
      rcases Nat.eq_zero_or_pos c with h0 | h0
      · simp only [nlS_z h0, nlM_z h0, nlN_z h0]
        simp (config := { maxSteps := 1000000 }) only [c3, reduceCtorEq, Nat.reduceEqDiff, eq_self, ↓reduceIte, ↓binI, ↓evRes, Opd.ev, Sx.get, put, putO, del, dels, retOf, SV.ren, SV.renL, BB, ↓PB]
        exact ⟨[(0, 0)], by simp [EntM, compat, apartM, keysBelow, eta, idHs, rd, SV.ren, SV.renL, ↓reduceIte, Kind.isOwn, exists_eq_left', ne_eq, implies_true, forall_const, BB]⟩
      · simp only [nlS_p h0, nlM_p h0, nlN_p h0]
        simp (config := { maxSteps := 1000000 }) only [c3, reduceCtorEq, Nat.reduceEqDiff, Nat.reduceAdd, eq_self, ↓reduceIte, ↓binI, ↓evRes, Opd.ev, Sx.get, put, putO, del, dels, retOf, SV.ren, SV.renL, BB, ↓PB]
        exact ⟨[(0, 0), (1, 0)], by simp [ren_bls, EntM, compat, apartM, keysBelow, eta, idHs, rd, SV.ren, SV.renL, Nat.reduceAdd, Nat.reduceLeDiff, ↓reduceIte, Kind.isOwn, exists_eq_left', ne_eq, implies_true, forall_const, forall_eq, BB]⟩
end Go.Proofs.YtkfbkooobfepeaaDoor

/- Merkle trees: the bits of an index, turned round. -/
namespace Go.Proofs.YtkfbkooobfepeaaDoor
open Go Go.Sx Sf
set_option maxRecDepth 100000
set_option linter.unusedVariables false
variable {tS : List (Nat × List SV)}
theorem six_list {l : List Bool} (h : l.length ≤ 6) : l = [] ∨ (∃ a, l = [a]) ∨ (∃ a b, l = [a, b]) ∨ (∃ a b c, l = [a, b, c]) ∨ (∃ a b c d, l = [a, b, c, d]) ∨ (∃ a b c d e, l = [a, b, c, d, e]) ∨ ∃ a b c d e f, l = [a, b, c, d, e, f] := by
  match l, h with
  | [], _ => exact .inl rfl
  | [a], _ => exact .inr (.inl ⟨a, rfl⟩)
  | [a, b], _ => exact .inr (.inr (.inl ⟨a, b, rfl⟩))
  | [a, b, c], _ => exact .inr (.inr (.inr (.inl ⟨a, b, c, rfl⟩)))
  | [a, b, c, d], _ => exact .inr (.inr (.inr (.inr (.inl ⟨a, b, c, d, rfl⟩))))
  | [a, b, c, d, e], _ => exact .inr (.inr (.inr (.inr (.inr (.inl ⟨a, b, c, d, e, rfl⟩)))))
  | [a, b, c, d, e, f], _ => exact .inr (.inr (.inr (.inr (.inr (.inr ⟨a, b, c, d, e, f, rfl⟩)))))
  | _ :: _ :: _ :: _ :: _ :: _ :: _ :: _, h => exact absurd h (by simp)
set_option maxHeartbeats 8000000 in
theorem f96 (l : List Bool) (h : l.length ≤ 6) : Fun Tryd.prog tS 96 [.slc 0 0 1 l.length none] [(0, ⟨.own 4, bls l⟩)] 1 (.tup []) [(0, ⟨.own 4, bls l.reverse⟩)] 1 := by
  rcases six_list h with rfl | ⟨a, rfl⟩ | ⟨a, b, rfl⟩ | ⟨a, b, c, rfl⟩ | ⟨a, b, c, d, rfl⟩ | ⟨a, b, c, d, e, rfl⟩ | ⟨a, b, c, d, e, f, rfl⟩
  all_goals
    refine fun_any none cF cF_ok chk96 (show 1 ≤ 28 by decide) (by decide) ?_
    unfold sf96 oh om oq
    simp (config := { maxSteps := 1000000 }) only [bls, reduceCtorEq, Nat.reduceEqDiff, Nat.reduceAdd, Int.reduceLE, Int.reduceSub, Int.reduceNeg, eq_self, frOf, ↓reduceIte, ↓binI, Opd.ev, Sx.get, put, putO, del, dels, BB, ↓PB]
    rw [den_loop]
    refine den_unroll cF_ok (callT_point _ _) 5 ?_
    simp (config := { maxSteps := 1000000 }) only [Nat.reduceBEq, reduceCtorEq, Nat.reduceEqDiff, Nat.reduceAdd, Nat.reduceLeDiff, Nat.reduceLT, Int.reduceToNat, Int.reduceLT, Int.reduceLE, Int.reduceAdd, Int.reduceSub, Int.reduceNeg, eq_self, evW, baseD, stBlk, touch, clear, untouched, updsW, ↓reduceIte, ↓binI, ↓evRes, Opd.ev, Sx.get, put, putO, del, dels, frD, memD, pickD, kills, views, newer, rd, upd, splice, SV.cells?, SV.one, retOf, SV.ren, SV.renL, BB, ↓PB]
    exact ⟨[(0, 0)], by simp [SV.ren, EntM, compat, apartM, keysBelow, eta, idHs, rd, SV.ren, SV.renL, ↓reduceIte, Kind.isOwn, exists_eq_left', ne_eq, implies_true, forall_const, BB]⟩
theorem f96n : Fun Tryd.prog tS 96 [.val (.slice none 0 0)] [] 0 (.tup []) [] 0 := by
  refine fun_any none cF cF_ok chk96 (show 1 ≤ 28 by decide) (by decide) ?_
  unfold sf96 oh om oq
  simp (config := { maxSteps := 1000000 }) only [reduceCtorEq, Nat.reduceEqDiff, Int.reduceLE, Int.reduceSub, Int.reduceNeg, eq_self, frOf, ↓reduceIte, ↓binI, Opd.ev, Sx.get, put, putO, del, dels, BB, ↓PB]
  rw [den_loop]
  refine den_unroll cF_ok (callT_point _ _) 5 ?_
  simp (config := { maxSteps := 1000000 }) only [reduceCtorEq, Nat.reduceEqDiff, Int.reduceLT, Int.reduceNeg, eq_self, ↓reduceIte, ↓binI, ↓evRes, Opd.ev, Sx.get, put, putO, del, dels, retOf, SV.ren, SV.renL, BB, ↓PB]
  exact ⟨[], by simp [EntM, compat, apartM, keysBelow, idHs, List.length_nil, List.take_nil, and_self]⟩
theorem bD_get (i h : Nat) : ∀ c, c ≤ h → ∀ t, t < c → (bD i h c)[t]? = some (bitB i (h - 1 - t))
  | 0, _, t, ht => by omega
  | c + 1, hc, t, ht => by
    simp only [bD]
    by_cases h1 : t < c
    · rw [List.getElem?_append_left (by rw [bD_len]; exact h1)]
      exact bD_get i h c (by omega) t h1
    · obtain rfl : t = c := by omega
      rw [List.getElem?_append_right (by rw [bD_len]; omega), bD_len]
      simp
theorem bR_get (i h k : Nat) (hk : k < h) : (bD i h h).reverse[k]? = some (bitB i k) := by
  have hl := bD_len i h h
  rw [List.getElem?_reverse (by rw [hl]; exact hk), hl, bD_get i h h (Nat.le_refl _) _ (by omega)]
  congr 2
  omega
end Go.Proofs.YtkfbkooobfepeaaDoor
