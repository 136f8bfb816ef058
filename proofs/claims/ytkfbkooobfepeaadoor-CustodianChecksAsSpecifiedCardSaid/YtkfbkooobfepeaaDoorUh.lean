/- The proof, part Uh: the texts MrE, DgE, MrF, BldA, DgC, DgD, MrG, MrH, ChkA, DecA, PlaC, DecB, DecC, DecD, DgF, ChkB. -/
import Derived.Test.YtkfbkooobfepeaaDoorUg
set_option linter.unusedSimpArgs false
set_option linter.unusedVariables false
/- Merkle trees: the inputs of a proof. -/
namespace Go.Proofs.YtkfbkooobfepeaaDoor
open Go Go.Sx Sf
set_option maxRecDepth 100000
set_option linter.unusedVariables false
def prf (X : List UInt8) (k : Nat) : List UInt8 := (X.drop (16 * k)).take 16
def shS (m : List UInt8) : List UInt8 := (sumS m).take 16
def inK (i : Nat) (d X : List UInt8) : Nat → List UInt8
  | 0 => ofM 1 [d]
  | k + 1 => if bitB i k = true then ofM 2 [prf X k, shS (inK i d X k)] else ofM 2 [shS (inK i d X k), prf X k]
theorem shS_len (m : List UInt8) : (shS m).length = 16 := by simp [shS, sumS_len]
theorem enc16 {a : List UInt8} (ha : a.length = 16) : (encS a).length = 18 := by
  have : (encI 16).length = 2 := by decide
  simp [encS, ha]
  exact this
theorem leaf_len {d : List UInt8} (hd : d.length = 16) : (ofM 1 [d]).length = 19 := by simp [ofM, enc16 hd]
theorem node_len {a b : List UInt8} (ha : a.length = 16) (hb : b.length = 16) : (ofM 2 [a, b]).length = 37 := by simp [ofM, enc16 ha, enc16 hb]
def lenK : Nat → Nat
  | 0 => 19
  | _ + 1 => 37
theorem prf_len {X : List UInt8} {h k : Nat} (hX : X.length = 16 * h) (hk : k < h) : (prf X k).length = 16 := by simp [prf, hX]; omega
theorem inK_len {i : Nat} {d X : List UInt8} {h : Nat} (hd : d.length = 16) (hX : X.length = 16 * h) : ∀ k, k ≤ h → (inK i d X k).length = lenK k
  | 0, _ => leaf_len hd
  | k + 1, hk => by
    unfold inK
    split
    · exact node_len (prf_len hX (by omega)) (shS_len _)
    · exact node_len (shS_len _) (prf_len hX (by omega))
theorem lenK_le (k : Nat) : lenK k ≤ 37 := by cases k <;> simp [lenK]
def gSh : GS
  | [.slc 0 0 1 len _], [(0, ⟨.view, cells⟩)] => match unB cells with
    | some m => if len = m.length ∧ m.length ≤ 2 ^ 37 then some (.agg (bys (shS m)), [], 1) else none
    | none => none
  | _, _ => none
theorem gSh_eq {m : List UInt8} {cap : Option Nat} {n : Nat} (hn : m.length = n) (hm : n ≤ 2 ^ 37) : gSh [.slc 0 0 1 n cap] [(0, ⟨.view, bys m⟩)] = some (.agg (bys (shS m)), [], 1) := by
  unfold gSh
  simp only [unB_bytes]
  rw [if_pos ⟨hn.symm, by omega⟩]
theorem gSh_ok : FunS Tryd.prog tH2 82 gSh := by
  intro a0 m0 r m1 n1 h
  unfold gSh at h
  split at h
  · split at h
    · rename_i m hm
      split at h
      · rename_i hc
        cases h
        obtain ⟨rfl, h2⟩ := hc
        rw [unB_some hm]
        exact ⟨(f82 m h2 _).more tHH, by simp [freshB]⟩
      · cases h
    · cases h
  · cases h
def gLeaf : GS
  | [.agg c], [] => match unB c with
    | some d => if d.length = 16 then some (.slc 0 0 1 19 none, [(0, ⟨.own 5, bys (ofM 1 [d])⟩)], 1) else none
    | none => none
  | _, _ => none
theorem gLeaf_eq {d : List UInt8} (hd : d.length = 16) : gLeaf [.agg (bys d)] [] = some (.slc 0 0 1 19 none, [(0, ⟨.own 5, bys (ofM 1 [d])⟩)], 1) := by
  unfold gLeaf
  simp only [unB_bytes]
  rw [if_pos hd]
theorem gLeaf_ok {tS : List (Nat × List SV)} : FunS Tryd.prog tS 97 gLeaf := by
  intro a0 m0 r m1 n1 h
  unfold gLeaf at h
  split at h
  · split at h
    · rename_i d hd
      split at h
      · rename_i hc
        cases h
        have F := f97 (tS := tS) d hc
        rw [leaf_len hc] at F
        rw [unB_some hd]
        exact ⟨F, by simp [freshB]⟩
      · cases h
    · cases h
  · cases h
def gNode : GS
  | [.agg c, .agg c'], [] => match unB c, unB c' with
    | some a, some b => if a.length = 16 ∧ b.length = 16 then some (.slc 0 0 1 37 none, [(0, ⟨.own 5, bys (ofM 2 [a, b])⟩)], 1) else none
    | _, _ => none
  | _, _ => none
theorem gNode_eq {a b : List UInt8} (ha : a.length = 16) (hb : b.length = 16) : gNode [.agg (bys a), .agg (bys b)] [] = some (.slc 0 0 1 37 none, [(0, ⟨.own 5, bys (ofM 2 [a, b])⟩)], 1) := by
  unfold gNode
  simp only [unB_bytes]
  rw [if_pos ⟨ha, hb⟩]
theorem gNode_ok {tS : List (Nat × List SV)} : FunS Tryd.prog tS 98 gNode := by
  intro a0 m0 r m1 n1 h
  unfold gNode at h
  split at h
  · split at h
    · rename_i a b ha hb
      split at h
      · rename_i hc
        cases h
        have F := f98 (tS := tS) a b hc.1 hc.2
        rw [node_len hc.1 hc.2] at F
        rw [unB_some ha, unB_some hb]
        exact ⟨F, by simp [freshB]⟩
      · cases h
    · cases h
  · cases h
def tabMk : List (FuncId × GS) := [(82, gSh), (97, gLeaf), (98, gNode)]
theorem tabMk_ok : ∀ x ∈ tabMk, FunS Tryd.prog tH2 x.1 x.2 := by
  intro x hx
  simp only [tabMk, List.mem_cons, List.not_mem_nil, or_false] at hx
  rcases hx with rfl | rfl | rfl
  · exact gSh_ok
  · exact gLeaf_ok
  · exact gNode_ok
def cMk : CallT := callAnd 94 (callT Tryd.prog tH2) (callAnd 96 (callT Tryd.prog tH2) (callS tabMk cF))
theorem cMk_ok : ∀ f a m n K, cMk f a m n K → callT Tryd.prog tH2 f a m n K := callAnd_ok (callAnd_ok (callS_ok tabMk_ok cF_ok))
def ouC (base last : Nat) (k : Nat) : List SV := (List.range k).map (fun j => SV.slc (base + j) 0 1 (lenK j) none) ++ [.slc last 0 1 (lenK k) none]
set_option maxHeartbeats 8000000 in
theorem f81 (h i : Nat) (d X : List UInt8) (hh : h ≤ 6) (h0 : 0 < h) (hi : i < 2 ^ h) (hd : d.length = 16) (hX : X.length = 16 * h) :
    Fun Tryd.prog tH2 81 [.int .i64 (P2 h), .int .i64 (i : Int), .agg (bys d), .slc 0 0 16 h none] [(0, ⟨.view, bys X⟩)] 1
      (.slc 1 0 1 (h + 1) none) [(1, ⟨.own 56, ouC 3 2 h⟩), (2, ⟨.own 5, bys (inK i d X h)⟩)] (3 + h) := by
  refine fun_any none cMk cMk_ok chk81 (show 4 ≤ 65 by decide) (by omega) ?_
  unfold sf81 og om oq ov
  have hip : (i : Int) < P2 h := by unfold P2; omega
  have c1 : ¬ (i : Int) < 0 := by omega
  have c2 : ¬ (i : Int) ≥ P2 h := by omega
  have hl : (bys d).length = 16 := by rw [len_bytes, hd]
  simp (config := { maxSteps := 1000000 }) only [cMk, tabMk, c1, c2, setv, reduceCtorEq, Nat.reduceEqDiff, Nat.reduceAdd, eq_self, frOf, setv, ↓reduceIte, ↓binI, Opd.ev, Sx.get, put, putO, del, dels, SV.cells?, BB, ↓PB]
  have F94 := f94 (tS := tH2) h i hh hi
  simp only [nlS_p h0, nlM_p h0, nlN_p h0] at F94
  refine ⟨[(2, 0)], _, _, _, _, _, F94, rfl, ⟨⟨_, rfl, rfl, rfl, rfl⟩, trivial⟩, ⟨by simp, trivial⟩, ⟨by decide, trivial⟩, by simp, ⟨fun _ => rfl, fun _ => rfl, trivial⟩, ?_⟩
  have hbl := bD_len i h h
  have hne : ((h : Int) != (h : Int)) = false := by simp
  simp (config := { maxSteps := 1000000 }) only [ren_bls, hne, reduceCtorEq, Nat.reduceEqDiff, Nat.reduceAdd, Nat.reduceSub, eq_self, ↓reduceIte, ↓binI, Opd.ev, Sx.get, put, putO, del, dels, rd, rm, eta, SV.ren, SV.renL, newOwn, targets, rms, Kind.isOwn, BB, ↓PB]
  have F96 := f96 (tS := tH2) (bD i h h) (by omega)
  rw [hbl] at F96
  refine ⟨[(3, 0)], _, _, _, _, _, F96, rfl, ⟨⟨_, rfl, rfl, rfl, (ren_bls _ _).symm⟩, trivial⟩, ⟨by simp, trivial⟩, ⟨by decide, trivial⟩, by simp, ⟨fun _ => rfl, trivial⟩, ?_⟩
  have gl := gLeaf_eq hd
  have td := List.take_of_length_le (show (bys d).length ≤ 16 by omega)
  simp (config := { maxSteps := 1000000 }) only [ren_bls, hl, td, ↓gl, lookF, reduceCtorEq, Nat.reduceEqDiff, Nat.reduceAdd, Nat.reduceSub, eq_self, ↓reduceIte, ↓fillE, Opd.ev, Sx.get, put, putO, del, dels, rd, rm, splice, SV.cells?, SV.one, canLW, canV, canC, belowL, apH, eta, SV.ren, SV.renL, newOwn, targets, rms, Kind.isOwn, BB, ↓PB]
  rw [den_loop]
  have rX : ∀ η, SV.renL η (bys X) = bys X := fun η => ren_bytes η X
  have lX : (bys X).length = 16 * h := by rw [len_bytes, hX]
  have hbr : (bD i h h).reverse.length = h := by rw [List.length_reverse, hbl]
  refine den_inv cMk_ok (σ := Nat) (fun k => [(37, .int .i64 (k : Int)), (36, .int .i64 (h : Int)), (35, .slc 0 0 16 h none), (10, .slc 4 0 1 (k + 1) none), (9, .ptr 2 0)])
    (fun k => [(5, ⟨.own 5, bys (inK i d X k)⟩), (4, ⟨.own 56, ouC 6 5 k⟩), (3, ⟨.own 4, bls (bD i h h).reverse⟩), (2, ⟨.own 138, [.slc 3 0 1 h none]⟩), (0, ⟨.view, bys X⟩)]) (fun k => 6 + k)
    (fun k => k ≤ h) (fun k => h - k) 0 ?_ (Nat.zero_le _) ?_
  · exact ⟨[(0, 0), (1, 0), (2, 0), (3, 0), (5, 0), (4, 0)], by simp [inK, ouC, List.range, List.range.loop, lenK, Nat.reduceAdd, rX, ren_bls, SV.ren, EntM, compat, apartM, keysBelow, eta, idHs, rd, SV.ren, SV.renL, Nat.reduceAdd, Nat.reduceEqDiff, Nat.reduceLT, Nat.reduceLeDiff, ↓reduceIte, Kind.isOwn, exists_eq_left', ne_eq, implies_true, forall_const, reduceCtorEq, forall_eq_or_imp, forall_eq, BB], by simp [frEnt, geto, eta, SV.ren, Nat.reduceAdd, Nat.reduceEqDiff, Nat.reduceLT, Nat.reduceLeDiff, ↓reduceIte, BB]⟩
  · intro k hk
    by_cases hkh : k < h
    · have c3 : (k : Int) < (h : Int) := by omega
      have c4 : (0 : Int) ≤ (k : Int) := by omega
      have gR : (bls (bD i h h).reverse)[k]? = some (.bool (bitB i k)) := by rw [bls, List.getElem?_map, bR_get i h k hkh]; rfl
      have pl := prf_len hX hkh
      have tP : List.take 16 (List.drop (k * 16) (bys X)) = bys (prf X k) := by simp [prf, bys, List.map_take, List.map_drop, Nat.mul_comm]
      have bP : k * 16 + 16 ≤ 16 * h := by omega
      have lP : (bys (prf X k)).length = 16 := by rw [len_bytes, pl]
      have ttP := List.take_of_length_le (show (bys (prf X k)).length ≤ 16 by omega)
      have il := inK_len (i := i) hd hX k hk
      have sl := shS_len (inK i d X k)
      have lS : (bys (shS (inK i d X k))).length = 16 := by rw [len_bytes, sl]
      have ttS := List.take_of_length_le (show (bys (shS (inK i d X k))).length ≤ 16 by omega)
      have gs := gSh_eq (cap := none) il (by have := lenK_le k; omega)
      have tI : List.take (lenK k) (bys (inK i d X k)) = bys (inK i d X k) := List.take_of_length_le (by rw [len_bytes, il]; omega)
      have lI : (bys (inK i d X k)).length = lenK k := by rw [len_bytes, il]
      have gn1 := gNode_eq pl sl
      have gn2 := gNode_eq sl pl
      have hin : inK i d X (k + 1) = if bitB i k = true then ofM 2 [prf X k, shS (inK i d X k)] else ofM 2 [shS (inK i d X k), prf X k] := rfl
      generalize hI : inK i d X k = I at *
      generalize hP : prf X k = P at *
      generalize hSe : shS I = S at *
      have hk6 : k = 0 ∨ k = 1 ∨ k = 2 ∨ k = 3 ∨ k = 4 ∨ k = 5 := by omega
      cases hbit : bitB i k with
      | false =>
        rw [hbit] at gR hin
        simp only [Bool.false_eq_true, if_false] at hin
        rcases hk6 with rfl | rfl | rfl | rfl | rfl | rfl
        · simp only [lenK] at gs tI lI il
          have tP0 : List.take 16 (bys X) = bys P := by simpa using tP
          have b0 : (16 : Nat) ≤ 16 * h := by omega
          have c5 : (0 : Int) < (h : Int) := by omega
          simp (config := { maxSteps := 1000000 }) only [c5, gR, tP0, b0, lX, lP, ttP, lS, ttS, ↓gs, tI, lI, hbr, len_bls, ↓gn2, ouC, List.range, List.range.loop, lenK, Nat.reduceAdd, lookF, reduceCtorEq, Nat.reduceEqDiff, Nat.reduceAdd, Nat.reduceSub, Nat.reduceMul, Nat.reduceLT, Int.reduceToNat, Int.reduceLT, Int.reduceLE, Int.reduceAdd, Int.reduceNeg, eq_self, ↓reduceIte, ↓binI, ↓fillE, Opd.ev, Sx.get, put, putO, del, dels, rd, rm, upd, splice, SV.cells?, SV.one, canLW, canV, canC, belowL, apH, apH1, eta, SV.ren, newOwn, targets, rms, Kind.isOwn, BB, ↓PB]
          exact ⟨by omega, by omega, by omega, by omega, 1, ⟨[(0, 0), (1, 0), (2, 0), (3, 0), (10, 0), (8, 0), (5, 0)], by simp [hin, List.range.loop, Nat.reduceAdd, rX, ren_bls, SV.ren, EntM, compat, apartM, keysBelow, eta, idHs, rd, SV.ren, SV.renL, Nat.reduceAdd, Nat.reduceEqDiff, Nat.reduceLT, Nat.reduceLeDiff, ↓reduceIte, Kind.isOwn, exists_eq_left', ne_eq, implies_true, forall_const, reduceCtorEq, forall_eq_or_imp, forall_eq, BB], by simp [frEnt, geto, eta, SV.ren, Nat.reduceAdd, Nat.reduceEqDiff, Nat.reduceLT, Nat.reduceLeDiff, ↓reduceIte, BB]⟩, by omega, by omega⟩
        · simp only [lenK] at gs tI lI il
          have c5 : (1 : Int) < (h : Int) := by omega
          simp (config := { maxSteps := 1000000 }) only [c5, gR, tP, bP, lX, lP, ttP, lS, ttS, ↓gs, tI, lI, hbr, len_bls, ↓gn2, ouC, List.range, List.range.loop, lenK, Nat.reduceAdd, lookF, reduceCtorEq, Nat.reduceEqDiff, Nat.reduceAdd, Nat.reduceSub, Nat.reduceMul, Nat.reduceLT, Int.reduceToNat, Int.reduceLT, Int.reduceLE, Int.reduceAdd, Int.reduceNeg, eq_self, ↓reduceIte, ↓binI, ↓fillE, Opd.ev, Sx.get, put, putO, del, dels, rd, rm, upd, splice, SV.cells?, SV.one, canLW, canV, canC, belowL, apH, apH1, eta, SV.ren, newOwn, targets, rms, Kind.isOwn, BB, ↓PB]
          exact ⟨by omega, by omega, by omega, by omega, 2, ⟨[(0, 0), (1, 0), (2, 0), (3, 0), (11, 0), (9, 0), (6, 0), (5, 0)], by simp [hin, List.range.loop, Nat.reduceAdd, rX, ren_bls, SV.ren, EntM, compat, apartM, keysBelow, eta, idHs, rd, SV.ren, SV.renL, Nat.reduceAdd, Nat.reduceEqDiff, Nat.reduceLT, Nat.reduceLeDiff, ↓reduceIte, Kind.isOwn, exists_eq_left', ne_eq, implies_true, forall_const, reduceCtorEq, forall_eq_or_imp, forall_eq, BB], by simp [frEnt, geto, eta, SV.ren, Nat.reduceAdd, Nat.reduceEqDiff, Nat.reduceLT, Nat.reduceLeDiff, ↓reduceIte, BB]⟩, by omega, by omega⟩
        · simp only [lenK] at gs tI lI il
          have c5 : (2 : Int) < (h : Int) := by omega
          simp (config := { maxSteps := 1000000 }) only [c5, gR, tP, bP, lX, lP, ttP, lS, ttS, ↓gs, tI, lI, hbr, len_bls, ↓gn2, ouC, List.range, List.range.loop, lenK, Nat.reduceAdd, lookF, reduceCtorEq, Nat.reduceEqDiff, Nat.reduceAdd, Nat.reduceSub, Nat.reduceMul, Nat.reduceLT, Int.reduceToNat, Int.reduceLT, Int.reduceLE, Int.reduceAdd, Int.reduceNeg, eq_self, ↓reduceIte, ↓binI, ↓fillE, Opd.ev, Sx.get, put, putO, del, dels, rd, rm, upd, splice, SV.cells?, SV.one, canLW, canV, canC, belowL, apH, apH1, eta, SV.ren, newOwn, targets, rms, Kind.isOwn, BB, ↓PB]
          exact ⟨by omega, by omega, by omega, by omega, 3, ⟨[(0, 0), (1, 0), (2, 0), (3, 0), (12, 0), (10, 0), (6, 0), (7, 0), (5, 0)], by simp [hin, List.range.loop, Nat.reduceAdd, rX, ren_bls, SV.ren, EntM, compat, apartM, keysBelow, eta, idHs, rd, SV.ren, SV.renL, Nat.reduceAdd, Nat.reduceEqDiff, Nat.reduceLT, Nat.reduceLeDiff, ↓reduceIte, Kind.isOwn, exists_eq_left', ne_eq, implies_true, forall_const, reduceCtorEq, forall_eq_or_imp, forall_eq, BB], by simp [frEnt, geto, eta, SV.ren, Nat.reduceAdd, Nat.reduceEqDiff, Nat.reduceLT, Nat.reduceLeDiff, ↓reduceIte, BB]⟩, by omega, by omega⟩
        · simp only [lenK] at gs tI lI il
          have c5 : (3 : Int) < (h : Int) := by omega
          simp (config := { maxSteps := 1000000 }) only [c5, gR, tP, bP, lX, lP, ttP, lS, ttS, ↓gs, tI, lI, hbr, len_bls, ↓gn2, ouC, List.range, List.range.loop, lenK, Nat.reduceAdd, lookF, reduceCtorEq, Nat.reduceEqDiff, Nat.reduceAdd, Nat.reduceSub, Nat.reduceMul, Nat.reduceLT, Int.reduceToNat, Int.reduceLT, Int.reduceLE, Int.reduceAdd, Int.reduceNeg, eq_self, ↓reduceIte, ↓binI, ↓fillE, Opd.ev, Sx.get, put, putO, del, dels, rd, rm, upd, splice, SV.cells?, SV.one, canLW, canV, canC, belowL, apH, apH1, eta, SV.ren, newOwn, targets, rms, Kind.isOwn, BB, ↓PB]
          exact ⟨by omega, by omega, by omega, by omega, 4, ⟨[(0, 0), (1, 0), (2, 0), (3, 0), (13, 0), (11, 0), (6, 0), (7, 0), (8, 0), (5, 0)], by simp [hin, List.range.loop, Nat.reduceAdd, rX, ren_bls, SV.ren, EntM, compat, apartM, keysBelow, eta, idHs, rd, SV.ren, SV.renL, Nat.reduceAdd, Nat.reduceEqDiff, Nat.reduceLT, Nat.reduceLeDiff, ↓reduceIte, Kind.isOwn, exists_eq_left', ne_eq, implies_true, forall_const, reduceCtorEq, forall_eq_or_imp, forall_eq, BB], by simp [frEnt, geto, eta, SV.ren, Nat.reduceAdd, Nat.reduceEqDiff, Nat.reduceLT, Nat.reduceLeDiff, ↓reduceIte, BB]⟩, by omega, by omega⟩
        · simp only [lenK] at gs tI lI il
          have c5 : (4 : Int) < (h : Int) := by omega
          simp (config := { maxSteps := 1000000 }) only [c5, gR, tP, bP, lX, lP, ttP, lS, ttS, ↓gs, tI, lI, hbr, len_bls, ↓gn2, ouC, List.range, List.range.loop, lenK, Nat.reduceAdd, lookF, reduceCtorEq, Nat.reduceEqDiff, Nat.reduceAdd, Nat.reduceSub, Nat.reduceMul, Nat.reduceLT, Int.reduceToNat, Int.reduceLT, Int.reduceLE, Int.reduceAdd, Int.reduceNeg, eq_self, ↓reduceIte, ↓binI, ↓fillE, Opd.ev, Sx.get, put, putO, del, dels, rd, rm, upd, splice, SV.cells?, SV.one, canLW, canV, canC, belowL, apH, apH1, eta, SV.ren, newOwn, targets, rms, Kind.isOwn, BB, ↓PB]
          exact ⟨by omega, by omega, by omega, by omega, 5, ⟨[(0, 0), (1, 0), (2, 0), (3, 0), (14, 0), (12, 0), (6, 0), (7, 0), (8, 0), (9, 0), (5, 0)], by simp [hin, List.range.loop, Nat.reduceAdd, rX, ren_bls, SV.ren, EntM, compat, apartM, keysBelow, eta, idHs, rd, SV.ren, SV.renL, Nat.reduceAdd, Nat.reduceEqDiff, Nat.reduceLT, Nat.reduceLeDiff, ↓reduceIte, Kind.isOwn, exists_eq_left', ne_eq, implies_true, forall_const, reduceCtorEq, forall_eq_or_imp, forall_eq, BB], by simp [frEnt, geto, eta, SV.ren, Nat.reduceAdd, Nat.reduceEqDiff, Nat.reduceLT, Nat.reduceLeDiff, ↓reduceIte, BB]⟩, by omega, by omega⟩
        · simp only [lenK] at gs tI lI il
          have c5 : (5 : Int) < (h : Int) := by omega
          simp (config := { maxSteps := 1000000 }) only [c5, gR, tP, bP, lX, lP, ttP, lS, ttS, ↓gs, tI, lI, hbr, len_bls, ↓gn2, ouC, List.range, List.range.loop, lenK, Nat.reduceAdd, lookF, reduceCtorEq, Nat.reduceEqDiff, Nat.reduceAdd, Nat.reduceSub, Nat.reduceMul, Nat.reduceLT, Int.reduceToNat, Int.reduceLT, Int.reduceLE, Int.reduceAdd, Int.reduceNeg, eq_self, ↓reduceIte, ↓binI, ↓fillE, Opd.ev, Sx.get, put, putO, del, dels, rd, rm, upd, splice, SV.cells?, SV.one, canLW, canV, canC, belowL, apH, apH1, eta, SV.ren, newOwn, targets, rms, Kind.isOwn, BB, ↓PB]
          exact ⟨by omega, by omega, by omega, by omega, 6, ⟨[(0, 0), (1, 0), (2, 0), (3, 0), (15, 0), (13, 0), (6, 0), (7, 0), (8, 0), (9, 0), (10, 0), (5, 0)], by simp [hin, List.range.loop, Nat.reduceAdd, rX, ren_bls, SV.ren, EntM, compat, apartM, keysBelow, eta, idHs, rd, SV.ren, SV.renL, Nat.reduceAdd, Nat.reduceEqDiff, Nat.reduceLT, Nat.reduceLeDiff, ↓reduceIte, Kind.isOwn, exists_eq_left', ne_eq, implies_true, forall_const, reduceCtorEq, forall_eq_or_imp, forall_eq, BB], by simp [frEnt, geto, eta, SV.ren, Nat.reduceAdd, Nat.reduceEqDiff, Nat.reduceLT, Nat.reduceLeDiff, ↓reduceIte, BB]⟩, by omega, by omega⟩
      | true =>
        rw [hbit] at gR hin
        simp only [if_true] at hin
        rcases hk6 with rfl | rfl | rfl | rfl | rfl | rfl
        · simp only [lenK] at gs tI lI il
          have tP0 : List.take 16 (bys X) = bys P := by simpa using tP
          have b0 : (16 : Nat) ≤ 16 * h := by omega
          have c5 : (0 : Int) < (h : Int) := by omega
          simp (config := { maxSteps := 1000000 }) only [c5, gR, tP0, b0, lX, lP, ttP, lS, ttS, ↓gs, tI, lI, hbr, len_bls, ↓gn1, ouC, List.range, List.range.loop, lenK, Nat.reduceAdd, lookF, reduceCtorEq, Nat.reduceEqDiff, Nat.reduceAdd, Nat.reduceSub, Nat.reduceMul, Nat.reduceLT, Int.reduceToNat, Int.reduceLT, Int.reduceLE, Int.reduceAdd, Int.reduceNeg, eq_self, ↓reduceIte, ↓binI, ↓fillE, Opd.ev, Sx.get, put, putO, del, dels, rd, rm, upd, splice, SV.cells?, SV.one, canLW, canV, canC, belowL, apH, apH1, eta, SV.ren, newOwn, targets, rms, Kind.isOwn, BB, ↓PB]
          exact ⟨by omega, by omega, by omega, by omega, 1, ⟨[(0, 0), (1, 0), (2, 0), (3, 0), (10, 0), (8, 0), (5, 0)], by simp [hin, List.range.loop, Nat.reduceAdd, rX, ren_bls, SV.ren, EntM, compat, apartM, keysBelow, eta, idHs, rd, SV.ren, SV.renL, Nat.reduceAdd, Nat.reduceEqDiff, Nat.reduceLT, Nat.reduceLeDiff, ↓reduceIte, Kind.isOwn, exists_eq_left', ne_eq, implies_true, forall_const, reduceCtorEq, forall_eq_or_imp, forall_eq, BB], by simp [frEnt, geto, eta, SV.ren, Nat.reduceAdd, Nat.reduceEqDiff, Nat.reduceLT, Nat.reduceLeDiff, ↓reduceIte, BB]⟩, by omega, by omega⟩
        · simp only [lenK] at gs tI lI il
          have c5 : (1 : Int) < (h : Int) := by omega
          simp (config := { maxSteps := 1000000 }) only [c5, gR, tP, bP, lX, lP, ttP, lS, ttS, ↓gs, tI, lI, hbr, len_bls, ↓gn1, ouC, List.range, List.range.loop, lenK, Nat.reduceAdd, lookF, reduceCtorEq, Nat.reduceEqDiff, Nat.reduceAdd, Nat.reduceSub, Nat.reduceMul, Nat.reduceLT, Int.reduceToNat, Int.reduceLT, Int.reduceLE, Int.reduceAdd, Int.reduceNeg, eq_self, ↓reduceIte, ↓binI, ↓fillE, Opd.ev, Sx.get, put, putO, del, dels, rd, rm, upd, splice, SV.cells?, SV.one, canLW, canV, canC, belowL, apH, apH1, eta, SV.ren, newOwn, targets, rms, Kind.isOwn, BB, ↓PB]
          exact ⟨by omega, by omega, by omega, by omega, 2, ⟨[(0, 0), (1, 0), (2, 0), (3, 0), (11, 0), (9, 0), (6, 0), (5, 0)], by simp [hin, List.range.loop, Nat.reduceAdd, rX, ren_bls, SV.ren, EntM, compat, apartM, keysBelow, eta, idHs, rd, SV.ren, SV.renL, Nat.reduceAdd, Nat.reduceEqDiff, Nat.reduceLT, Nat.reduceLeDiff, ↓reduceIte, Kind.isOwn, exists_eq_left', ne_eq, implies_true, forall_const, reduceCtorEq, forall_eq_or_imp, forall_eq, BB], by simp [frEnt, geto, eta, SV.ren, Nat.reduceAdd, Nat.reduceEqDiff, Nat.reduceLT, Nat.reduceLeDiff, ↓reduceIte, BB]⟩, by omega, by omega⟩
        · simp only [lenK] at gs tI lI il
          have c5 : (2 : Int) < (h : Int) := by omega
          simp (config := { maxSteps := 1000000 }) only [c5, gR, tP, bP, lX, lP, ttP, lS, ttS, ↓gs, tI, lI, hbr, len_bls, ↓gn1, ouC, List.range, List.range.loop, lenK, Nat.reduceAdd, lookF, reduceCtorEq, Nat.reduceEqDiff, Nat.reduceAdd, Nat.reduceSub, Nat.reduceMul, Nat.reduceLT, Int.reduceToNat, Int.reduceLT, Int.reduceLE, Int.reduceAdd, Int.reduceNeg, eq_self, ↓reduceIte, ↓binI, ↓fillE, Opd.ev, Sx.get, put, putO, del, dels, rd, rm, upd, splice, SV.cells?, SV.one, canLW, canV, canC, belowL, apH, apH1, eta, SV.ren, newOwn, targets, rms, Kind.isOwn, BB, ↓PB]
          exact ⟨by omega, by omega, by omega, by omega, 3, ⟨[(0, 0), (1, 0), (2, 0), (3, 0), (12, 0), (10, 0), (6, 0), (7, 0), (5, 0)], by simp [hin, List.range.loop, Nat.reduceAdd, rX, ren_bls, SV.ren, EntM, compat, apartM, keysBelow, eta, idHs, rd, SV.ren, SV.renL, Nat.reduceAdd, Nat.reduceEqDiff, Nat.reduceLT, Nat.reduceLeDiff, ↓reduceIte, Kind.isOwn, exists_eq_left', ne_eq, implies_true, forall_const, reduceCtorEq, forall_eq_or_imp, forall_eq, BB], by simp [frEnt, geto, eta, SV.ren, Nat.reduceAdd, Nat.reduceEqDiff, Nat.reduceLT, Nat.reduceLeDiff, ↓reduceIte, BB]⟩, by omega, by omega⟩
        · simp only [lenK] at gs tI lI il
          have c5 : (3 : Int) < (h : Int) := by omega
          simp (config := { maxSteps := 1000000 }) only [c5, gR, tP, bP, lX, lP, ttP, lS, ttS, ↓gs, tI, lI, hbr, len_bls, ↓gn1, ouC, List.range, List.range.loop, lenK, Nat.reduceAdd, lookF, reduceCtorEq, Nat.reduceEqDiff, Nat.reduceAdd, Nat.reduceSub, Nat.reduceMul, Nat.reduceLT, Int.reduceToNat, Int.reduceLT, Int.reduceLE, Int.reduceAdd, Int.reduceNeg, eq_self, ↓reduceIte, ↓binI, ↓fillE, Opd.ev, Sx.get, put, putO, del, dels, rd, rm, upd, splice, SV.cells?, SV.one, canLW, canV, canC, belowL, apH, apH1, eta, SV.ren, newOwn, targets, rms, Kind.isOwn, BB, ↓PB]
          exact ⟨by omega, by omega, by omega, by omega, 4, ⟨[(0, 0), (1, 0), (2, 0), (3, 0), (13, 0), (11, 0), (6, 0), (7, 0), (8, 0), (5, 0)], by simp [hin, List.range.loop, Nat.reduceAdd, rX, ren_bls, SV.ren, EntM, compat, apartM, keysBelow, eta, idHs, rd, SV.ren, SV.renL, Nat.reduceAdd, Nat.reduceEqDiff, Nat.reduceLT, Nat.reduceLeDiff, ↓reduceIte, Kind.isOwn, exists_eq_left', ne_eq, implies_true, forall_const, reduceCtorEq, forall_eq_or_imp, forall_eq, BB], by simp [frEnt, geto, eta, SV.ren, Nat.reduceAdd, Nat.reduceEqDiff, Nat.reduceLT, Nat.reduceLeDiff, ↓reduceIte, BB]⟩, by omega, by omega⟩
        · simp only [lenK] at gs tI lI il
          have c5 : (4 : Int) < (h : Int) := by omega
          simp (config := { maxSteps := 1000000 }) only [c5, gR, tP, bP, lX, lP, ttP, lS, ttS, ↓gs, tI, lI, hbr, len_bls, ↓gn1, ouC, List.range, List.range.loop, lenK, Nat.reduceAdd, lookF, reduceCtorEq, Nat.reduceEqDiff, Nat.reduceAdd, Nat.reduceSub, Nat.reduceMul, Nat.reduceLT, Int.reduceToNat, Int.reduceLT, Int.reduceLE, Int.reduceAdd, Int.reduceNeg, eq_self, ↓reduceIte, ↓binI, ↓fillE, Opd.ev, Sx.get, put, putO, del, dels, rd, rm, upd, splice, SV.cells?, SV.one, canLW, canV, canC, belowL, apH, apH1, eta, SV.ren, newOwn, targets, rms, Kind.isOwn, BB, ↓PB]
          exact ⟨by omega, by omega, by omega, by omega, 5, ⟨[(0, 0), (1, 0), (2, 0), (3, 0), (14, 0), (12, 0), (6, 0), (7, 0), (8, 0), (9, 0), (5, 0)], by simp [hin, List.range.loop, Nat.reduceAdd, rX, ren_bls, SV.ren, EntM, compat, apartM, keysBelow, eta, idHs, rd, SV.ren, SV.renL, Nat.reduceAdd, Nat.reduceEqDiff, Nat.reduceLT, Nat.reduceLeDiff, ↓reduceIte, Kind.isOwn, exists_eq_left', ne_eq, implies_true, forall_const, reduceCtorEq, forall_eq_or_imp, forall_eq, BB], by simp [frEnt, geto, eta, SV.ren, Nat.reduceAdd, Nat.reduceEqDiff, Nat.reduceLT, Nat.reduceLeDiff, ↓reduceIte, BB]⟩, by omega, by omega⟩
        · simp only [lenK] at gs tI lI il
          have c5 : (5 : Int) < (h : Int) := by omega
          simp (config := { maxSteps := 1000000 }) only [c5, gR, tP, bP, lX, lP, ttP, lS, ttS, ↓gs, tI, lI, hbr, len_bls, ↓gn1, ouC, List.range, List.range.loop, lenK, Nat.reduceAdd, lookF, reduceCtorEq, Nat.reduceEqDiff, Nat.reduceAdd, Nat.reduceSub, Nat.reduceMul, Nat.reduceLT, Int.reduceToNat, Int.reduceLT, Int.reduceLE, Int.reduceAdd, Int.reduceNeg, eq_self, ↓reduceIte, ↓binI, ↓fillE, Opd.ev, Sx.get, put, putO, del, dels, rd, rm, upd, splice, SV.cells?, SV.one, canLW, canV, canC, belowL, apH, apH1, eta, SV.ren, newOwn, targets, rms, Kind.isOwn, BB, ↓PB]
          exact ⟨by omega, by omega, by omega, by omega, 6, ⟨[(0, 0), (1, 0), (2, 0), (3, 0), (15, 0), (13, 0), (6, 0), (7, 0), (8, 0), (9, 0), (10, 0), (5, 0)], by simp [hin, List.range.loop, Nat.reduceAdd, rX, ren_bls, SV.ren, EntM, compat, apartM, keysBelow, eta, idHs, rd, SV.ren, SV.renL, Nat.reduceAdd, Nat.reduceEqDiff, Nat.reduceLT, Nat.reduceLeDiff, ↓reduceIte, Kind.isOwn, exists_eq_left', ne_eq, implies_true, forall_const, reduceCtorEq, forall_eq_or_imp, forall_eq, BB], by simp [frEnt, geto, eta, SV.ren, Nat.reduceAdd, Nat.reduceEqDiff, Nat.reduceLT, Nat.reduceLeDiff, ↓reduceIte, BB]⟩, by omega, by omega⟩
    · obtain rfl : k = h := by omega
      have c3 : decide ((k : Int) < (k : Int)) = false := by simp
      have hk6 : k = 1 ∨ k = 2 ∨ k = 3 ∨ k = 4 ∨ k = 5 ∨ k = 6 := by omega
      simp (config := { maxSteps := 1000000 }) only [c3, Nat.reduceEqDiff, eq_self, ↓reduceIte, ↓binI, ↓evRes, Opd.ev, Sx.get, put, putO, del, dels, retOf, eta, SV.ren, BB, ↓PB]
      rcases hk6 with rfl | rfl | rfl | rfl | rfl | rfl
      · exact ⟨[(0, 0), (4, 0), (5, 0), (6, 0)], by simp [ouC, List.range, List.range.loop, lenK, Nat.reduceAdd, SV.ren, EntM, compat, apartM, keysBelow, eta, idHs, rd, SV.ren, SV.renL, Nat.reduceAdd, Nat.reduceEqDiff, Nat.reduceLT, Nat.reduceLeDiff, ↓reduceIte, Kind.isOwn, exists_eq_left', ne_eq, implies_true, forall_const, forall_eq, BB], by simp [Nat.reduceAdd, Nat.reduceLT, Nat.reduceLeDiff, BB]⟩
      · exact ⟨[(0, 0), (4, 0), (5, 0), (6, 0), (7, 0)], by simp [ouC, List.range, List.range.loop, lenK, Nat.reduceAdd, SV.ren, EntM, compat, apartM, keysBelow, eta, idHs, rd, SV.ren, SV.renL, Nat.reduceAdd, Nat.reduceEqDiff, Nat.reduceLT, Nat.reduceLeDiff, ↓reduceIte, Kind.isOwn, exists_eq_left', ne_eq, implies_true, forall_const, forall_eq, BB], by simp [Nat.reduceAdd, Nat.reduceLT, Nat.reduceLeDiff, BB]⟩
      · exact ⟨[(0, 0), (4, 0), (5, 0), (6, 0), (7, 0), (8, 0)], by simp [ouC, List.range, List.range.loop, lenK, Nat.reduceAdd, SV.ren, EntM, compat, apartM, keysBelow, eta, idHs, rd, SV.ren, SV.renL, Nat.reduceAdd, Nat.reduceEqDiff, Nat.reduceLT, Nat.reduceLeDiff, ↓reduceIte, Kind.isOwn, exists_eq_left', ne_eq, implies_true, forall_const, forall_eq, BB], by simp [Nat.reduceAdd, Nat.reduceLT, Nat.reduceLeDiff, BB]⟩
      · exact ⟨[(0, 0), (4, 0), (5, 0), (6, 0), (7, 0), (8, 0), (9, 0)], by simp [ouC, List.range, List.range.loop, lenK, Nat.reduceAdd, SV.ren, EntM, compat, apartM, keysBelow, eta, idHs, rd, SV.ren, SV.renL, Nat.reduceAdd, Nat.reduceEqDiff, Nat.reduceLT, Nat.reduceLeDiff, ↓reduceIte, Kind.isOwn, exists_eq_left', ne_eq, implies_true, forall_const, forall_eq, BB], by simp [Nat.reduceAdd, Nat.reduceLT, Nat.reduceLeDiff, BB]⟩
      · exact ⟨[(0, 0), (4, 0), (5, 0), (6, 0), (7, 0), (8, 0), (9, 0), (10, 0)], by simp [ouC, List.range, List.range.loop, lenK, Nat.reduceAdd, SV.ren, EntM, compat, apartM, keysBelow, eta, idHs, rd, SV.ren, SV.renL, Nat.reduceAdd, Nat.reduceEqDiff, Nat.reduceLT, Nat.reduceLeDiff, ↓reduceIte, Kind.isOwn, exists_eq_left', ne_eq, implies_true, forall_const, forall_eq, BB], by simp [Nat.reduceAdd, Nat.reduceLT, Nat.reduceLeDiff, BB]⟩
      · exact ⟨[(0, 0), (4, 0), (5, 0), (6, 0), (7, 0), (8, 0), (9, 0), (10, 0), (11, 0)], by simp [ouC, List.range, List.range.loop, lenK, Nat.reduceAdd, SV.ren, EntM, compat, apartM, keysBelow, eta, idHs, rd, SV.ren, SV.renL, Nat.reduceAdd, Nat.reduceEqDiff, Nat.reduceLT, Nat.reduceLeDiff, ↓reduceIte, Kind.isOwn, exists_eq_left', ne_eq, implies_true, forall_const, forall_eq, BB], by simp [Nat.reduceAdd, Nat.reduceLT, Nat.reduceLeDiff, BB]⟩
end Go.Proofs.YtkfbkooobfepeaaDoor

/- What is signed for a message. -/
namespace Go.Proofs.YtkfbkooobfepeaaDoor
open Go Go.Sx Sf
set_option maxRecDepth 100000
set_option linter.unusedVariables false
theorem take16 {d : List UInt8} (hd : d.length = 16) : List.take 16 (bys d) = bys d := List.take_of_length_le (by rw [len_bytes]; omega)
def cDi : CallT := callS tabAv cF
theorem cDi_ok : ∀ f a m n K, cDi f a m n K → callT Tryd.prog tH2 f a m n K := callS_ok tabAv_ok cF_ok
set_option maxHeartbeats 4000000 in
theorem f63 (p msg : List UInt8) (i : Int) (hp : p.length = 16) (hm : msg.length ≤ 2 ^ 30) : Fun Tryd.prog tH2 63 [.agg (bys p), .int .i64 i, .str msg] [] 0 (.agg (bys (ofS 6 [p, encI i, msg]))) [] 0 := by
  refine fun_pure none cDi cDi_ok chk63 (show 3 ≤ 15 by decide) (fun η => by simp only [SV.ren, ren_bytes]) ?_
  unfold sf63 oh oq
  have hl : (bys p).length = 16 := by rw [len_bytes, hp]
  have tp := take16 hp
  have e2 := encI_len i
  have go := gOf_eq3 (tag := 6) (a := p) (b := encI i) (c := msg) (by omega) (by omega) (by omega)
  have au1 := all_isU8 (encI i)
  have mb1 := map_byteOf (encI i)
  have tb1 := take_bytes (encI i)
  have au2 := all_isU8 p
  have mb2 := map_byteOf p
  have hO := ofS_len 6 [p, encI i, msg]
  generalize ofS 6 [p, encI i, msg] = O at *
  have lO : (bys O).length = 16 := by rw [len_bytes, hO]
  have tO := take16 hO
  simp (config := { maxSteps := 1000000 }) only [cDi, tabAv, gInt, ↓go, hl, tp, au1, mb1, tb1, au2, mb2, lO, tO, SV.flatL, SV.flat, lookF, reduceCtorEq, Nat.reduceEqDiff, Nat.reduceAdd, Nat.reduceLeDiff, Nat.reduceLT, Int.reduceToNat, Int.reduceLE, eq_self, frOf, ↓reduceIte, ↓fillE, ↓evRes, evA, Opd.ev, Sx.get, put, putO, del, dels, frD, memD, pickD, kills, views, newer, rd, upd, splice, SV.cells?, SV.one, retOf, canLW, canV, canC, belowL, apH, apH1, eta, SV.ren, newOwn, targets, rms, Kind.isOwn, BB, ↓PB]
set_option maxHeartbeats 4000000 in
theorem f67 (p msg : List UInt8) (i : Int) (hp : p.length = 16) (hm : msg.length ≤ 2 ^ 30) (hi : R64 i) : Fun Tryd.prog tH2 67 [.agg (bys p), .int .i64 i, .str msg] [] 0 (.agg (bys (ofS 6 [p, encI i, msg]))) [] 0 := by
  refine fun_pure none cAr cAr_ok chk67 (show 3 ≤ 15 by decide) (fun η => by simp only [SV.ren, ren_bytes]) ?_
  unfold sf67 om oq ov
  have hl : (bys p).length = 16 := by rw [len_bytes, hp]
  have tp := take16 hp
  have e2 := encI_len i
  have go := gOfR_eq3 (tag := 6) (a := p) (b := encI i) (c := msg) (by omega) (by omega) (by omega)
  have gi := gIntR_eq hi
  have au1 := all_isU8 (encI i)
  have mb1 := map_byteOf (encI i)
  have tb1 := take_bytes (encI i)
  have hO := ofS_len 6 [p, encI i, msg]
  generalize ofS 6 [p, encI i, msg] = O at *
  have lO : (bys O).length = 16 := by rw [len_bytes, hO]
  have tO := take16 hO
  simp (config := { maxSteps := 1000000 }) only [cAr, tabAr, gText, unB_bytes, hp, ↓gi, ↓go, hl, tp, au1, mb1, tb1, lO, tO, SV.flatL, SV.flat, lookF, reduceCtorEq, Nat.reduceEqDiff, Nat.reduceAdd, Nat.reduceSub, Nat.reduceLeDiff, Nat.reduceLT, eq_self, frOf, ↓reduceIte, ↓fillE, ↓evRes, Opd.ev, Sx.get, put, putO, del, dels, rd, upd, splice, SV.cells?, SV.one, retOf, canLW, canV, canC, belowL, apH, apH1, eta, SV.ren, newOwn, targets, rms, Kind.isOwn, BB, ↓PB]
end Go.Proofs.YtkfbkooobfepeaaDoor

/- Merkle trees: the check of a proof. -/
namespace Go.Proofs.YtkfbkooobfepeaaDoor
open Go Go.Sx Sf
set_option maxRecDepth 100000
set_option linter.unusedVariables false
theorem eqPub {a b : List UInt8} (ha : a.length = 16) (hb : b.length = 16) :
    eqPat [.i .u8, .i .u8, .i .u8, .i .u8, .i .u8, .i .u8, .i .u8, .i .u8, .i .u8, .i .u8, .i .u8, .i .u8, .i .u8, .i .u8, .i .u8, .i .u8] (bys a) (bys b) = some (a == b) := by
  have h1 := eqPat_bys a b [] [] [] true (by rw [ha, hb]) rfl
  rw [ha] at h1
  simp only [List.append_nil, Bool.and_true] at h1
  exact h1
set_option maxHeartbeats 8000000 in
theorem f81z (d : List UInt8) (hd : d.length = 16) :
    Fun Tryd.prog tH2 81 [.int .i64 (P2 0), .int .i64 0, .agg (bys d), .val (.slice none 0 0)] [] 0
      (.slc 0 0 1 1 none) [(0, ⟨.own 56, [.slc 1 0 1 19 none]⟩), (1, ⟨.own 5, bys (ofM 1 [d])⟩)] 2 := by
  refine fun_any none cMk cMk_ok chk81 (show 4 ≤ 65 by decide) (by decide) ?_
  unfold sf81 og om oq ov
  have c2 : decide ((0 : Int) ≥ P2 0) = false := by decide
  have hl : (bys d).length = 16 := by rw [len_bytes, hd]
  simp (config := { maxSteps := 1000000 }) only [cMk, tabMk, c2, setv, reduceCtorEq, Nat.reduceEqDiff, Nat.reduceAdd, Int.reduceLT, eq_self, frOf, setv, ↓reduceIte, ↓binI, Opd.ev, Sx.get, put, putO, del, dels, SV.cells?, BB, ↓PB]
  have F94 := f94 (tS := tH2) 0 0 (by decide) (by decide)
  simp only [nlS_z (Eq.refl 0), nlM_z (Eq.refl 0), nlN_z (Eq.refl 0)] at F94
  refine ⟨[(1, 0)], _, _, _, _, _, F94, rfl, ⟨⟨_, rfl, rfl, rfl, rfl⟩, trivial⟩, ⟨by simp, trivial⟩, ⟨by decide, trivial⟩, by simp, ⟨fun _ => rfl, trivial⟩, ?_⟩
  simp (config := { maxSteps := 1000000 }) only [Int.reduceBNe, reduceCtorEq, Nat.reduceEqDiff, Nat.reduceSub, eq_self, ↓reduceIte, ↓binI, Opd.ev, Sx.get, put, putO, del, dels, rd, rm, eta, SV.ren, SV.renL, newOwn, targets, rms, Kind.isOwn, BB, ↓PB]
  refine ⟨[], _, _, _, _, _, f96n, rfl, trivial, trivial, trivial, by simp, trivial, ?_⟩
  have gl := gLeaf_eq hd
  have td := List.take_of_length_le (show (bys d).length ≤ 16 by omega)
  simp (config := { maxSteps := 1000000 }) only [hl, td, ↓gl, lookF, reduceCtorEq, Nat.reduceEqDiff, Nat.reduceAdd, eq_self, ↓reduceIte, ↓fillE, Opd.ev, Sx.get, put, putO, del, dels, rd, splice, SV.cells?, SV.one, canLW, canV, canC, belowL, apH, eta, SV.ren, SV.renL, newOwn, targets, rms, Kind.isOwn, BB, ↓PB]
  rw [den_loop]
  refine den_unroll cMk_ok (callT_point _ _) 5 ?_
  simp (config := { maxSteps := 1000000 }) only [Nat.reduceEqDiff, Int.reduceLT, eq_self, ↓reduceIte, ↓binI, ↓evRes, Opd.ev, Sx.get, put, putO, del, dels, retOf, eta, SV.ren, BB, ↓PB]
  exact ⟨[(3, 0), (2, 0)], by simp [SV.ren, EntM, compat, apartM, keysBelow, eta, idHs, rd, SV.ren, SV.renL, Nat.reduceAdd, Nat.reduceLeDiff, ↓reduceIte, Kind.isOwn, exists_eq_left', ne_eq, implies_true, forall_const, forall_eq, BB]⟩
section
variable {T : List (Nat × List SV)} {call : CallT} {fr0 : Fr} {m0 : Mem} {r : List Opr} {done : List Dn} {n : Nat} {K : List Dn → Nat → Prop} {d : Option Nat} {op : SOp} {ks p h : List Nat} {g : Nat} {b : Bool}
theorem ev_0 : evA T call fr0 m0 [] done n K = K done n := (rfl)
theorem ev_n : evA T call fr0 m0 (⟨d, op, none, ks, p, h⟩ :: r) done n K =
    evO T call (frD (pickD done p) (dels fr0 h)) (views (memD (pickD done p) m0)) n (fun v m' n' => n ≤ n' ∧ evA T call fr0 m0 r (done ++ [⟨d, v, newer n m', n, n'⟩]) n' K) op := (rfl)
theorem ev_g : evA T call fr0 m0 (⟨d, op, some (g, b), ks, p, h⟩ :: r) done n K = (match get (frD (pickD done p) (dels fr0 h)) g with
    | .bool t => gd t b (evO T call (frD (pickD done p) (dels fr0 h)) (views (memD (pickD done p) m0)) n (fun v m' n' => n ≤ n' ∧ evA T call fr0 m0 r (done ++ [⟨d, v, newer n m', n, n'⟩]) n' K) op)
        (evA T call fr0 m0 r (done ++ [⟨d, .val undef, [], n, n⟩]) n K)
    | .val (.tuple _) => evA T call fr0 m0 r (done ++ [⟨d, .val undef, [], n, n⟩]) n K
    | _ => False) := (rfl)
end
theorem renL_map (η : Nat → Nat × Nat) {α : Type} (f : α → SV) : ∀ l : List α, SV.renL η (l.map f) = l.map (fun x => (f x).ren η)
  | [] => by simp only [List.map_nil, SV.renL]
  | x :: l => by simp only [List.map_cons, SV.renL, renL_map η f l]
theorem ren_ouC {η : Nat → Nat × Nat} {b b' l l' k : Nat} (h1 : ∀ j, j < k → η (b + j) = (b' + j, 0)) (h2 : η l = (l', 0)) : SV.renL η (ouC b l k) = ouC b' l' k := by
  have h3 : ∀ a c : List SV, SV.renL η (a ++ c) = SV.renL η a ++ SV.renL η c := by
    intro a c
    induction a with
    | nil => simp only [List.nil_append, SV.renL]
    | cons x a ih => simp only [List.cons_append, SV.renL, ih]
  unfold ouC
  rw [h3, renL_map]
  congr 1
  · apply List.map_congr_left
    intro j hj
    simp only [SV.ren, h1 j (List.mem_range.1 hj), Nat.add_zero]
  · simp only [SV.renL, SV.ren, h2, Nat.add_zero]
theorem ouC_len (b l k : Nat) : (ouC b l k).length = k + 1 := by simp [ouC]
theorem ouC_last (b l k : Nat) : (ouC b l k)[k]? = some (.slc l 0 1 (lenK k) none) := by
  unfold ouC
  rw [List.getElem?_append_right (by simp)]
  simp
def cVr : CallT := callAnd 81 (callT Tryd.prog tH2) (callS tabMk cF)
theorem cVr_ok : ∀ f a m n K, cVr f a m n K → callT Tryd.prog tH2 f a m n K := callAnd_ok (callS_ok tabMk_ok cF_ok)
set_option maxHeartbeats 8000000 in
theorem f64z (p d : List UInt8) (hp : p.length = 16) (hd : d.length = 16) :
    Fun Tryd.prog tH2 64 [.agg (bys p), .int .i64 (P2 0), .int .i64 0, .agg (bys d), .val (.slice none 0 0)] [] 0 (.bool (shS (ofM 1 [d]) == p)) [] 0 := by
  refine fun_any none cVr cVr_ok chk64 (show 5 ≤ 30 by decide) (by decide) ?_
  unfold sf64 oh om oq
  have hl : (bys d).length = 16 := by rw [len_bytes, hd]
  have lp : (bys p).length = 16 := by rw [len_bytes, hp]
  have tp := take16 hp
  have td := take16 hd
  simp (config := { maxSteps := 1000000 }) only [cVr, tabMk, hl, td, reduceCtorEq, Nat.reduceEqDiff, Nat.reduceAdd, eq_self, frOf, ↓reduceIte, Opd.ev, Sx.get, put, putO, del, dels, rd, SV.cells?, BB, ↓PB]
  have F := f81z d hd
  refine ⟨[], _, _, _, _, _, F, ?_, trivial, trivial, trivial, by simp, ⟨fun _ => rfl, fun _ => rfl, trivial⟩, ?_⟩
  · simp only [SV.renL, SV.ren, ren_bytes]
  have il := leaf_len hd
  have gs := gSh_eq (cap := none) il (by omega)
  have sl := shS_len (ofM 1 [d])
  have lS : (bys (shS (ofM 1 [d]))).length = 16 := by rw [len_bytes, sl]
  have tI : List.take 19 (bys (ofM 1 [d])) = bys (ofM 1 [d]) := List.take_of_length_le (by rw [len_bytes, il]; omega)
  have lI : (bys (ofM 1 [d])).length = 19 := by rw [len_bytes, il]
  have eq := eqPub sl hp
  simp (config := { maxSteps := 1000000 }) only [Nat.reduceEqDiff, Nat.reduceAdd, eq_self, ↓reduceIte, Opd.ev, Sx.get, put, putO, del, dels, eta, SV.ren, SV.renL, newOwn, targets, rms, Kind.isOwn, BB, ↓PB]
  iterate 3 (rw [ev_n]; simp (config := { maxSteps := 1000000 }) only [Nat.reduceEqDiff, Nat.reduceLT, eq_self, ↓reduceIte, Opd.ev, Sx.get, put, putO, del, dels, frD, memD, pickD, views, newer, rd, BB, ↓PB])
  iterate 8 (rw [ev_g]; simp (config := { maxSteps := 1000000 }) only [lp, tp, lI, tI, ↓gs, lookF, reduceCtorEq, Nat.reduceEqDiff, Nat.reduceSub, Nat.reduceLT, Int.reduceToNat, Int.reduceLT, Int.reduceLE, Int.reduceSub, Int.reduceNeg, eq_self, ↓reduceIte, ↓binI, Opd.ev, Sx.get, put, putO, del, dels, frD, memD, pickD, views, newer, rd, canLW, canV, canC, belowL, apH, apH1, SV.ren, newOwn, targets, rms, Kind.isOwn, BB, ↓PB])
  rw [ev_0]
  simp (config := { maxSteps := 1000000 }) only [eq, setv, reduceCtorEq, Nat.reduceEqDiff, eq_self, setv, ↓reduceIte, ↓evRes, Opd.ev, Sx.get, put, putO, del, dels, frD, memD, kills, retOf, SV.ren, BB, ↓PB]
  exact ⟨[], by simp [EntM, compat, apartM, keysBelow, idHs, List.length_nil, List.take_nil, and_self]⟩
set_option maxHeartbeats 8000000 in
theorem f64 (h i : Nat) (p d X : List UInt8) (hp : p.length = 16) (hh : h ≤ 6) (h0 : 0 < h) (hi : i < 2 ^ h) (hd : d.length = 16) (hX : X.length = 16 * h) :
    Fun Tryd.prog tH2 64 [.agg (bys p), .int .i64 (P2 h), .int .i64 (i : Int), .agg (bys d), .slc 0 0 16 h none] [(0, ⟨.view, bys X⟩)] 1 (.bool (shS (inK i d X h) == p)) [] 1 := by
  refine fun_any none cVr cVr_ok chk64 (show 5 ≤ 30 by decide) (by decide) ?_
  unfold sf64 oh om oq
  have hl : (bys d).length = 16 := by rw [len_bytes, hd]
  have lp : (bys p).length = 16 := by rw [len_bytes, hp]
  have tp := take16 hp
  have td := take16 hd
  simp (config := { maxSteps := 1000000 }) only [cVr, tabMk, hl, td, reduceCtorEq, Nat.reduceEqDiff, Nat.reduceAdd, eq_self, frOf, ↓reduceIte, Opd.ev, Sx.get, put, putO, del, dels, rd, SV.cells?, BB, ↓PB]
  have F := f81 h i d X hh h0 hi hd hX
  refine ⟨[(0, 0)], _, _, _, _, _, F, ?_, ⟨⟨_, rfl, ?_, ?_⟩, trivial⟩, ⟨by simp, trivial⟩, ⟨by decide, trivial⟩, by simp, ⟨fun _ => rfl, fun _ => rfl, trivial⟩, ?_⟩
  · simp only [SV.renL, SV.ren, ren_bytes, eta, List.getElem?_cons_zero, Option.getD_some]
  · exact Nat.le_of_eq (Nat.zero_add _)
  · simp only [eta, BB]
  have il := inK_len (i := i) hd hX h (Nat.le_refl _)
  have lk : lenK h = 37 := by obtain ⟨k, rfl⟩ : ∃ k, h = k + 1 := ⟨h - 1, by omega⟩; rfl
  rw [lk] at il
  have gs := gSh_eq (cap := none) il (by omega)
  have sl := shS_len (inK i d X h)
  have tI : List.take 37 (bys (inK i d X h)) = bys (inK i d X h) := List.take_of_length_le (by rw [len_bytes, il]; omega)
  have lI : (bys (inK i d X h)).length = 37 := by rw [len_bytes, il]
  have lS : (bys (shS (inK i d X h))).length = 16 := by rw [len_bytes, sl]
  have eq := eqPub sl hp
  have rO : SV.renL (eta [(0, 0)] 3) (ouC 3 2 h) = ouC 5 4 h := ren_ouC (fun j _ => by unfold eta; rw [show 3 + j = (j + 2) + 1 by omega]; simp; omega) rfl
  have gO := ouC_last 5 4 h
  rw [lk] at gO
  have lO := ouC_len 5 4 h
  have hS : IntKind.i64.wrap (((h + 1 : Nat) : Int) - 1) = (h : Int) := by rw [wrap64_eq (by omega) (by omega)]; omega
  have hle : (0 : Int) ≤ (h : Int) := by omega
  generalize hI : inK i d X h = I at *
  generalize hOe : ouC 5 4 h = O at *
  simp (config := { maxSteps := 1000000 }) only [rO, Nat.reduceEqDiff, Nat.reduceAdd, Nat.reduceSub, eq_self, ↓reduceIte, Opd.ev, Sx.get, put, putO, del, dels, eta, SV.ren, newOwn, targets, rms, Kind.isOwn, BB, ↓PB]
  iterate 3 (rw [ev_n]; simp (config := { maxSteps := 1000000 }) only [lO, Nat.reduceEqDiff, eq_self, ↓reduceIte, Opd.ev, Sx.get, put, putO, del, dels, frD, memD, pickD, views, newer, rd, BB, ↓PB])
  iterate 8 (rw [ev_g]; simp (config := { maxSteps := 1000000 }) only [lp, tp, lI, tI, ↓gs, gO, lO, hS, hle, lookF, Nat.reduceEqDiff, Nat.reduceSub, eq_self, ↓reduceIte, ↓binI, Opd.ev, Sx.get, put, putO, del, dels, frD, memD, pickD, views, newer, rd, canLW, canV, canC, belowL, apH, apH1, SV.ren, newOwn, targets, rms, Kind.isOwn, BB, ↓PB])
  rw [ev_0]
  simp (config := { maxSteps := 1000000 }) only [eq, setv, reduceCtorEq, Nat.reduceEqDiff, eq_self, setv, ↓reduceIte, ↓evRes, Opd.ev, Sx.get, put, putO, del, dels, frD, memD, kills, retOf, SV.ren, BB, ↓PB]
  exact ⟨by omega, by omega, by omega, by omega, [(0, 0)], by simp [EntM, compat, apartM, keysBelow, idHs, BB]⟩
end Go.Proofs.YtkfbkooobfepeaaDoor

/- strings.Builder: Write and String. -/
namespace Go.Proofs.YtkfbkooobfepeaaDoor
open Go Go.Sx Sf
set_option maxRecDepth 100000
set_option linter.unusedVariables false
variable {tS : List (Nat × List SV)}
theorem f105a : Fun Tryd.prog tS 105 [.ptr 0 0] [(0, ⟨.own 131, [.val (.pointer none), .val (.slice none 0 0)]⟩)] 1 (.tup []) [(0, ⟨.own 131, [.ptr 0 0, .val (.slice none 0 0)]⟩)] 1 := by
  refine fun_any none cF cF_ok chk105 (show 1 ≤ 20 by decide) (by decide) ?_
  unfold sf105 om oq ov
  simp (config := { maxSteps := 1000000 }) only [reduceCtorEq, Nat.reduceEqDiff, Nat.reduceAdd, Nat.reduceLeDiff, eq_self, frOf, ↓reduceIte, ↓evRes, Opd.ev, Sx.get, put, putO, del, dels, rd, upd, splice, SV.cells?, SV.one, retOf, SV.ren, SV.renL, BB, ↓PB]
  exact ⟨[(0, 0)], by simp [EntM, compat, apartM, keysBelow, eta, idHs, rd, SV.ren, SV.renL, ↓reduceIte, Kind.isOwn, exists_eq_left', ne_eq, implies_true, forall_const, BB]⟩
theorem f105b (b : List UInt8) (k : Nat) : Fun Tryd.prog tS 105 [.ptr 0 0] [(0, ⟨.own 131, [.ptr 0 0, .slc 1 0 1 k none]⟩), (1, ⟨.own 5, bys b⟩)] 2 (.tup []) [(0, ⟨.own 131, [.ptr 0 0, .slc 1 0 1 k none]⟩), (1, ⟨.own 5, bys b⟩)] 2 := by
  refine fun_any none cF cF_ok chk105 (show 1 ≤ 20 by decide) (by decide) ?_
  unfold sf105 om oq ov
  simp (config := { maxSteps := 1000000 }) only [reduceCtorEq, Nat.reduceEqDiff, eq_self, frOf, ↓reduceIte, ↓evRes, Opd.ev, Sx.get, put, putO, del, dels, rd, retOf, SV.ren, SV.renL, BB, ↓PB]
  exact ⟨[(0, 0), (1, 0)], by simp [EntM, compat, apartM, keysBelow, eta, idHs, rd, SV.ren, SV.renL, Nat.reduceAdd, Nat.reduceLeDiff, ↓reduceIte, Kind.isOwn, exists_eq_left', ne_eq, implies_true, forall_const, forall_eq, BB]⟩
theorem f92 (b : List UInt8) (h0 : 0 < b.length) (hb : b.length ≤ 2 ^ 40) : Fun Tryd.prog tS 92 [.ptr 0 0] [(0, ⟨.own 131, [.ptr 0 0, .slc 1 0 1 b.length none]⟩), (1, ⟨.own 5, bys b⟩)] 2 (.str b) [] 2 := by
  refine fun_any none cF cF_ok chk92 (show 1 ≤ 14 by decide) (by decide) ?_
  unfold sf92 oh om
  have hl := len_bytes b
  have tb := take_bytes b
  have i0 : (0 : Int) < (b.length : Int) := by omega
  have i1 : (b.length : Int) ≤ 9223372036854775807 := by omega
  have i2 : 1 ≤ b.length := h0
  have ab : (bys b).all isByte = true := by simp [bys, List.all_eq_true, isByte_byte]
  have mb := map_byteOf b
  simp (config := { maxSteps := 1000000 }) only [hl, tb, i0, i1, i2, ab, mb, reduceCtorEq, Nat.reduceEqDiff, eq_self, frOf, ↓reduceIte, ↓evRes, evA, Opd.ev, Sx.get, put, putO, del, dels, frD, memD, pickD, kills, views, newer, rd, upd, retOf, SV.ren, BB, ↓PB]
  exact ⟨[(0, 0), (1, 0)], rfl, by simp [compat, apartM, keysBelow, idHs, BB]⟩
theorem f91a (p : List UInt8) (hp : p.length ≤ 2 ^ 38) (cap : Option Nat) : Fun Tryd.prog tS 91 [.ptr 0 0, .slc 1 0 1 p.length cap] [(0, ⟨.own 131, [.val (.pointer none), .val (.slice none 0 0)]⟩), (1, ⟨.view, bys p⟩)] 2
    (.tup [.int .i64 (p.length : Int), .val .nilIface]) [(0, ⟨.own 131, [.ptr 0 0, .slc 2 0 1 p.length none]⟩), (2, ⟨.own 5, bys p⟩)] 3 := by
  refine fun_any none (callAnd 105 (callT Tryd.prog tS) cF) (callAnd_ok cF_ok) chk91 (show 2 ≤ 19 by decide) (by decide) ?_
  unfold sf91 om oq ov
  simp (config := { maxSteps := 1000000 }) only [reduceCtorEq, Nat.reduceEqDiff, eq_self, frOf, ↓reduceIte, Opd.ev, Sx.get, put, putO, del, dels, BB, ↓PB]
  refine ⟨[(0, 0)], _, _, _, _, 1, f105a, rfl, ⟨⟨_, rfl, rfl, rfl, rfl⟩, trivial⟩, ⟨by simp, trivial⟩, ⟨by decide, trivial⟩, by simp, ⟨fun _ => rfl, trivial⟩, ?_⟩
  have tp := take_bytes p
  have hl := len_bytes p
  simp (config := { maxSteps := 1000000 }) only [tp, hl, reduceCtorEq, Nat.reduceEqDiff, Nat.reduceAdd, Nat.reduceSub, eq_self, ↓reduceIte, ↓evRes, Opd.ev, Sx.get, put, putO, del, dels, rd, rm, upd, splice, SV.cells?, SV.one, retOf, eta, SV.ren, SV.renL, newOwn, targets, rms, Kind.isOwn, BB, ↓PB]
  exact ⟨by omega, by omega, [(0, 0), (1, 0), (2, 0)], rfl, by simp [compat, apartM, keysBelow, eta, idHs, rd, SV.ren, SV.renL, Nat.reduceAdd, Nat.reduceLeDiff, ↓reduceIte, Kind.isOwn, exists_eq_left', ne_eq, implies_true, forall_const, reduceCtorEq, forall_eq, BB]⟩
theorem f91b (b p : List UInt8) (hp : b.length + p.length ≤ 2 ^ 38) (cap : Option Nat) : Fun Tryd.prog tS 91 [.ptr 0 0, .slc 2 0 1 p.length cap] [(0, ⟨.own 131, [.ptr 0 0, .slc 1 0 1 b.length none]⟩), (1, ⟨.own 5, bys b⟩), (2, ⟨.view, bys p⟩)] 3
    (.tup [.int .i64 (p.length : Int), .val .nilIface]) [(0, ⟨.own 131, [.ptr 0 0, .slc 3 0 1 (b.length + p.length) none]⟩), (3, ⟨.own 5, bys (b ++ p)⟩)] 4 := by
  refine fun_any none (callAnd 105 (callT Tryd.prog tS) cF) (callAnd_ok cF_ok) chk91 (show 2 ≤ 19 by decide) (by decide) ?_
  unfold sf91 om oq ov
  simp (config := { maxSteps := 1000000 }) only [reduceCtorEq, Nat.reduceEqDiff, eq_self, frOf, ↓reduceIte, Opd.ev, Sx.get, put, putO, del, dels, BB, ↓PB]
  refine ⟨[(0, 0), (1, 0)], _, _, _, _, 2, f105b b b.length, rfl, ⟨⟨_, rfl, rfl, rfl, rfl⟩, ⟨_, rfl, rfl, rfl, (ren_bytes _ b).symm⟩, trivial⟩, ⟨by intro x hx; simp at hx; subst hx; intro _; show (0 : Nat) ≠ 1; decide, ⟨by simp, trivial⟩⟩, ⟨by decide, by decide, trivial⟩, by intro x hx; simp at hx; rcases hx with rfl | rfl <;> decide, ⟨fun _ => rfl, fun _ => rfl, trivial⟩, ?_⟩
  have tp := take_bytes p
  have tb := take_bytes b
  have hl := len_bytes p
  have hlb := len_bytes b
  simp (config := { maxSteps := 1000000 }) only [tp, tb, hl, hlb, bytes_app, reduceCtorEq, Nat.reduceEqDiff, Nat.reduceAdd, Nat.reduceSub, eq_self, ↓reduceIte, ↓evRes, Opd.ev, Sx.get, put, putO, del, dels, rd, rm, upd, splice, SV.cells?, SV.one, retOf, eta, SV.ren, SV.renL, newOwn, targets, rms, Kind.isOwn, BB, ↓PB]
  exact ⟨by omega, by omega, [(0, 0), (1, 0), (2, 0), (3, 0)], rfl, by simp [compat, apartM, keysBelow, eta, idHs, rd, SV.ren, SV.renL, Nat.reduceAdd, Nat.reduceLeDiff, ↓reduceIte, Kind.isOwn, exists_eq_left', ne_eq, implies_true, forall_const, reduceCtorEq, forall_eq, BB]⟩
end Go.Proofs.YtkfbkooobfepeaaDoor

/- One-time signatures: the public key for which a signature is valid. -/
namespace Go.Proofs.YtkfbkooobfepeaaDoor
open Go Go.Sx Sf
set_option maxRecDepth 100000
set_option linter.unusedVariables false
def partS (sig : List UInt8) (k : Nat) : List UInt8 := (sig.drop (16 * k)).take 16
def digT (d : List UInt8) (k : Nat) : Nat := ((digS d).getD k 0).toNat
def endS (d sig : List UInt8) (k : Nat) : List UInt8 := advS k (15 - digT d k) (digT d k) (partS sig k)
theorem partS_len {sig : List UInt8} {k : Nat} (hs : sig.length = 560) (hk : k < 35) : (partS sig k).length = 16 := by simp [partS, hs]; omega
theorem digT_get (d : List UInt8) {k : Nat} (hk : k < 35) : digT d k ≤ 15 ∧ (digS d)[k]? = some (digT d k : Int) := by
  obtain ⟨t, h1, h2⟩ := digS_rng d k hk
  unfold digT
  rw [List.getD_eq_getElem?_getD, h2]
  simp
  exact h1
theorem endS_len {d sig : List UInt8} {k : Nat} (hs : sig.length = 560) (hk : k < 35) : (endS d sig k).length = 16 := advS_len _ _ _ _ (partS_len hs hk)
def endsS (d sig : List UInt8) (k : Nat) : List UInt8 := ((List.range k).map (endS d sig)).flatten
theorem endsS_step (d sig : List UInt8) (k : Nat) : endsS d sig k ++ endS d sig k = endsS d sig (k + 1) := by
  unfold endsS
  rw [List.range_succ, List.map_append, List.flatten_append]
  simp
theorem endsS_len {d sig : List UInt8} (hs : sig.length = 560) : ∀ {k : Nat}, k ≤ 35 → (endsS d sig k).length = 16 * k
  | 0, _ => rfl
  | k + 1, hk => by
    rw [← endsS_step, List.length_append, endsS_len hs (by omega), endS_len hs (by omega)]
    omega
def cA80 : CallT := callX ⟨[(80, gAdv)], []⟩
theorem cA80_ok : ∀ f a m n K, cA80 f a m n K → callT Tryd.prog tH2 f a m n K := callX_ok tabA80
set_option maxHeartbeats 4000000 in
theorem f79 (d sig : List UInt8) (k : Nat) (hs : sig.length = 560) (hk : k < 35) :
    Fun Tryd.prog tH2 79 [.int .i64 (k : Int), .ptr 0 0, .ptr 1 0] [(0, ⟨.own 9, [.str sig]⟩), (1, ⟨.own 32, [.slc 2 0 1 35 (some 35)]⟩), (2, ⟨.view, ints (digS d)⟩)] 3
      (.agg (bys (endS d sig k))) [(0, ⟨.own 9, [.str sig]⟩), (1, ⟨.own 32, [.slc 2 0 1 35 (some 35)]⟩)] 3 := by
  refine fun_any none cA80 cA80_ok chk79 (show 3 ≤ 23 by decide) (by decide) ?_
  unfold sf79 oh om oq ov
  obtain ⟨ht, hg⟩ := digT_get d hk
  have gg := get_ints hg
  have hp := partS_len hs hk
  have w1 : IntKind.i64.wrap ((k : Int) * 16) = ((16 * k : Nat) : Int) := by rw [wrap64_eq (by omega) (by omega)]; omega
  have w2 : IntKind.i64.wrap ((k : Int) + 1) = ((k + 1 : Nat) : Int) := by rw [wrap64_eq (by omega) (by omega)]; omega
  have w3 : IntKind.i64.wrap (((k + 1 : Nat) : Int) * 16) = ((16 * k + 16 : Nat) : Int) := by rw [wrap64_eq (by omega) (by omega)]; omega
  have b1 : (0 : Int) ≤ ((16 * k : Nat) : Int) := by omega
  have b2 : ((16 * k : Nat) : Int) ≤ ((16 * k + 16 : Nat) : Int) := by omega
  have b3 : ((16 * k + 16 : Nat) : Int) ≤ (sig.length : Int) := by omega
  have b4 : 16 * k + 16 - 16 * k = 16 := by omega
  have ps : List.take 16 (List.drop (16 * k) sig) = partS sig k := rfl
  have ga := gAdv_eq (k := k) (h := digT d k) (v := partS sig k) (by omega) ht hp
  have ee : advS k (15 - digT d k) (digT d k) (partS sig k) = endS d sig k := rfl
  have hel := endS_len (d := d) hs hk
  have c2 : (0 : Int) ≤ (k : Int) := by omega
  have c3 : (k : Int) < 35 := by omega
  have dl := digS_len d
  have lp : (bys (partS sig k)).length = 16 := by rw [len_bytes, hp]
  have tp : List.take 16 (bys (partS sig k)) = bys (partS sig k) := List.take_of_length_le (by omega)
  rw [ee] at ga
  have le : (bys (endS d sig k)).length = 16 := by rw [len_bytes, hel]
  have te : List.take 16 (bys (endS d sig k)) = bys (endS d sig k) := List.take_of_length_le (by omega)
  simp (config := { maxSteps := 1000000 }) only [cA80, w1, w2, w3, b1, b2, b3, b4, ps, ↓ga, gg, c2, c3, dl, hp, lp, tp, le, te, SV.flatL, SV.flat, lookF, reduceCtorEq, Nat.reduceEqDiff, Nat.reduceAdd, Nat.reduceLT, eq_self, frOf, ↓reduceIte, ↓binI, ↓evRes, Opd.ev, Sx.get, put, putO, del, dels, rd, upd, splice, SV.cells?, retOf, SV.ren, BB, ↓PB]
  exact ⟨hk, [(0, 0), (1, 0), (2, 0)], rfl, by simp [compat, apartM, keysBelow, eta, idHs, rd, SV.ren, SV.renL, Nat.reduceAdd, Nat.reduceEqDiff, Nat.reduceLT, Nat.reduceLeDiff, ↓reduceIte, Kind.isOwn, exists_eq_left', ne_eq, implies_true, forall_const, reduceCtorEq, forall_eq, BB]⟩
def joinM (d sig : List UInt8) : Nat → Mem
  | 0 => [(3, ⟨.own 131, [.val (.pointer none), .val (.slice none 0 0)]⟩), (0, ⟨.own 9, [.str sig]⟩), (1, ⟨.own 32, [.slc 2 0 1 35 (some 35)]⟩), (2, ⟨.view, ints (digS d)⟩)]
  | k + 1 => [(4, ⟨.own 5, bys (endsS d sig (k + 1))⟩), (3, ⟨.own 131, [.ptr 3 0, .slc 4 0 1 (16 * (k + 1)) none]⟩), (0, ⟨.own 9, [.str sig]⟩), (1, ⟨.own 32, [.slc 2 0 1 35 (some 35)]⟩), (2, ⟨.view, ints (digS d)⟩)]
def joinB : Nat → Nat
  | 0 => 4
  | _ + 1 => 5
theorem call79 {d sig : List UInt8} {k : Nat} {m : Mem} {n : Nat} {K : Kt} (hs : sig.length = 560) (hk : k < 35) (h0 : rd m 0 = some ⟨.own 9, [.str sig]⟩) (h1 : rd m 1 = some ⟨.own 32, [.slc 2 0 1 35 (some 35)]⟩)
    (h2 : rd m 2 = some ⟨.view, ints (digS d)⟩) (hn : 3 ≤ n) (hK : K (.agg (bys (endS d sig k))) ([(0, ⟨.own 9, [.str sig]⟩), (1, ⟨.own 32, [.slc 2 0 1 35 (some 35)]⟩)] ++ rms m [0, 1]) n) :
    callT Tryd.prog tH2 79 [.int .i64 (k : Int), .ptr 0 0, .ptr 1 0] m n K := by
  refine ⟨[(0, 0), (1, 0), (2, 0)], _, _, _, _, 3, f79 d sig k hs hk, rfl, ⟨⟨_, h0, rfl, rfl, rfl⟩, ⟨_, h1, rfl, rfl, rfl⟩, ⟨_, h2, Nat.le_of_eq (Nat.zero_add _), ?_⟩, trivial⟩,
    ⟨by intro x hx; simp at hx; rcases hx with rfl | rfl <;> (intro _; simp [eta]), ⟨by intro x hx; simp at hx; subst hx; intro _; simp [eta], ⟨by simp, trivial⟩⟩⟩, ⟨by decide, by decide, by decide, trivial⟩,
    by intro x hx; simp at hx; rcases hx with rfl | rfl | rfl <;> (simp only; omega), ⟨fun _ => rfl, fun _ => rfl, trivial⟩, ?_⟩
  · simp only [eta, BB]
  · have e : (SV.agg (bys (endS d sig k))).ren (eta [(0, 0), (1, 0), (2, 0)] n) = .agg (bys (endS d sig k)) := by simp only [SV.ren, ren_bytes]
    rw [e]
    exact hK
def cJn : CallT := callAnd 79 (callT Tryd.prog tH2) (callAnd 91 (callT Tryd.prog tH2) (callAnd 92 (callT Tryd.prog tH2) cF))
theorem cJn_ok : ∀ f a m n K, cJn f a m n K → callT Tryd.prog tH2 f a m n K := callAnd_ok (callAnd_ok (callAnd_ok cF_ok))
set_option maxHeartbeats 4000000 in
theorem f78 (d sig : List UInt8) (hs : sig.length = 560) :
    Fun Tryd.prog tH2 78 [.fn 79 [] [.ptr 0 0, .ptr 1 0]] [(0, ⟨.own 9, [.str sig]⟩), (1, ⟨.own 32, [.slc 2 0 1 35 (some 35)]⟩), (2, ⟨.view, ints (digS d)⟩)] 3
      (.str (endsS d sig 35)) [(0, ⟨.own 9, [.str sig]⟩), (1, ⟨.own 32, [.slc 2 0 1 35 (some 35)]⟩)] 3 := by
  refine fun_any none cJn cJn_ok chk78 (show 1 ≤ 16 by decide) (by decide) ?_
  unfold sf78 om oq ov
  simp (config := { maxSteps := 1000000 }) only [cJn, reduceCtorEq, Nat.reduceEqDiff, Nat.reduceAdd, eq_self, frOf, ↓reduceIte, Opd.ev, put, putO, del, dels, BB, ↓PB]
  rw [den_loop]
  have rI : ∀ η, SV.renL η (ints (digS d)) = ints (digS d) := fun η => ren_ints η _
  refine den_inv cJn_ok (σ := Nat) (fun k => [(6, .int .i64 (k : Int)), (3, .ptr 3 0), (0, .fn 79 [] [.ptr 0 0, .ptr 1 0])]) (joinM d sig) joinB
    (fun k => k ≤ 35) (fun k => 35 - k) 0 ?_ (Nat.zero_le _) ?_
  · exact ⟨[(0, 0), (1, 0), (2, 0), (3, 0)], by simp only [joinM, joinB, rI, EntM, compat, apartM, keysBelow, eta, idHs, rd, SV.ren, SV.renL, Nat.reduceAdd, Nat.reduceSub, Nat.reduceEqDiff, Nat.reduceLT, Nat.reduceLeDiff, ↓reduceIte, Kind.isOwn, exists_eq_left', ne_eq, implies_true, false_imp_iff, forall_const, reduceCtorEq, forall_eq_or_imp, forall_eq, BB], by simp [frEnt, geto, eta, SV.ren, SV.renL, Nat.reduceAdd, Nat.reduceEqDiff, Nat.reduceLT, Nat.reduceLeDiff, ↓reduceIte, reduceCtorEq, BB]⟩
  · intro k hk
    by_cases h35 : k < 35
    · have hel := endS_len (d := d) hs h35
      have hstp := endsS_step d sig k
      have hlk := endsS_len (d := d) hs hk
      have c1 : (k : Int) < 35 := by omega
      have v4 : IntKind.i64.wrap ((k : Int) + 1) = ((k + 1 : Nat) : Int) := by rw [wrap64_eq (by omega) (by omega)]; omega
      have le : (bys (endS d sig k)).length = 16 := by rw [len_bytes, hel]
      have te : List.take 16 (bys (endS d sig k)) = bys (endS d sig k) := List.take_of_length_le (by omega)
      cases k with
      | zero =>
        simp only [joinM, joinB]
        simp (config := { maxSteps := 1000000 }) only [reduceCtorEq, Nat.reduceEqDiff, Int.reduceLT, eq_self, ↓reduceIte, ↓binI, Opd.ev, Sx.get, put, putO, del, dels, BB, ↓PB]
        refine call79 (k := 0) hs h35 rfl rfl rfl (by decide) ?_
        simp (config := { maxSteps := 1000000 }) only [le, reduceCtorEq, Nat.reduceEqDiff, Nat.reduceAdd, Int.reduceToNat, Int.reduceLE, eq_self, ↓reduceIte, Opd.ev, Sx.get, put, putO, del, dels, rd, rm, upd, splice, SV.cells?, rms, BB, ↓PB]
        have f91 := f91a (tS := tH2) (endS d sig 0) (by omega) (some 16)
        rw [hel] at f91
        refine ⟨[(3, 0), (4, 0)], _, _, _, _, 3, f91, rfl, ⟨⟨_, rfl, rfl, rfl, rfl⟩, ⟨_, rfl, Nat.le_of_eq (Nat.zero_add _), ?_⟩, trivial⟩,
          ⟨by intro x hx; simp at hx; subst hx; intro _; simp [eta], ⟨by simp, trivial⟩⟩, ⟨by decide, by decide, trivial⟩, by intro x hx; simp at hx; rcases hx with rfl | rfl <;> decide, ⟨fun _ => rfl, fun _ => rfl, trivial⟩, ?_⟩
        · simp only [eta, BB]
        have e1 : endsS d sig 1 = endS d sig 0 := by rw [← hstp]; rfl
        simp (config := { maxSteps := 1000000 }) only [reduceCtorEq, Nat.reduceEqDiff, Nat.reduceAdd, Nat.reduceSub, Int.reduceLE, Int.reduceAdd, Int.reduceNeg, eq_self, ↓reduceIte, ↓binI, Opd.ev, Sx.get, put, putO, del, dels, rm, eta, SV.ren, SV.renL, newOwn, targets, rms, Kind.isOwn, BB, ↓PB]
        exact ⟨1, ⟨[(0, 0), (1, 0), (2, 0), (3, 0), (5, 0)], by simp only [joinM, joinB, e1, rI, EntM, compat, apartM, keysBelow, eta, idHs, rd, SV.ren, SV.renL, Nat.reduceAdd, Nat.reduceSub, Nat.reduceEqDiff, Nat.reduceLT, Nat.reduceLeDiff, ↓reduceIte, Kind.isOwn, exists_eq_left', ne_eq, implies_true, false_imp_iff, forall_const, reduceCtorEq, forall_eq_or_imp, forall_eq, BB], by simp [frEnt, geto, eta, SV.ren, SV.renL, Nat.reduceAdd, Nat.reduceEqDiff, Nat.reduceLT, Nat.reduceLeDiff, ↓reduceIte, reduceCtorEq, BB]⟩, by omega, by omega⟩
      | succ k =>
        simp only [joinM, joinB]
        simp (config := { maxSteps := 1000000 }) only [c1, reduceCtorEq, Nat.reduceEqDiff, eq_self, ↓reduceIte, ↓binI, Opd.ev, Sx.get, put, putO, del, dels, BB, ↓PB]
        refine call79 (k := k + 1) hs h35 rfl rfl rfl (by decide) ?_
        simp (config := { maxSteps := 1000000 }) only [le, reduceCtorEq, Nat.reduceEqDiff, Nat.reduceAdd, Int.reduceToNat, Int.reduceLE, eq_self, ↓reduceIte, Opd.ev, Sx.get, put, putO, del, dels, rd, rm, upd, splice, SV.cells?, rms, BB, ↓PB]
        have f91 := f91b (tS := tH2) (endsS d sig (k + 1)) (endS d sig (k + 1)) (by omega) (some 16)
        rw [hel, hlk, hstp] at f91
        refine ⟨[(3, 0), (4, 0), (5, 0)], _, _, _, _, 4, f91, rfl, ⟨⟨_, rfl, rfl, rfl, rfl⟩, ⟨_, rfl, rfl, rfl, (ren_bytes _ _).symm⟩, ⟨_, rfl, Nat.le_of_eq (Nat.zero_add _), ?_⟩, trivial⟩,
          ⟨by intro x hx; simp at hx; rcases hx with rfl | rfl <;> (intro _; simp [eta]), ⟨by intro x hx; simp at hx; subst hx; intro _; simp [eta], ⟨by simp, trivial⟩⟩⟩, ⟨by decide, by decide, by decide, trivial⟩, by intro x hx; simp at hx; rcases hx with rfl | rfl | rfl <;> decide, ⟨fun _ => rfl, fun _ => rfl, trivial⟩, ?_⟩
        · simp only [eta, BB]
        simp (config := { maxSteps := 1000000 }) only [v4, reduceCtorEq, Nat.reduceEqDiff, Nat.reduceAdd, Nat.reduceSub, eq_self, ↓reduceIte, ↓binI, Opd.ev, Sx.get, put, putO, del, dels, rm, eta, SV.ren, SV.renL, newOwn, targets, rms, Kind.isOwn, BB, ↓PB]
        exact ⟨k + 1 + 1, ⟨[(0, 0), (1, 0), (2, 0), (3, 0), (6, 0)], by simp only [joinM, joinB, rI, EntM, compat, apartM, keysBelow, eta, idHs, rd, SV.ren, SV.renL, Nat.reduceAdd, Nat.reduceSub, Nat.reduceEqDiff, Nat.reduceLT, Nat.reduceLeDiff, ↓reduceIte, Kind.isOwn, exists_eq_left', ne_eq, implies_true, false_imp_iff, forall_const, reduceCtorEq, forall_eq_or_imp, forall_eq, BB] <;> rfl, by simp [frEnt, geto, eta, SV.ren, SV.renL, Nat.reduceAdd, Nat.reduceEqDiff, Nat.reduceLT, Nat.reduceLeDiff, ↓reduceIte, reduceCtorEq, BB]⟩, by omega, by omega⟩
    · obtain rfl : k = 35 := by omega
      simp only [joinM, joinB]
      simp (config := { maxSteps := 1000000 }) only [reduceCtorEq, Nat.reduceEqDiff, Nat.reduceAdd, Nat.reduceMul, Int.reduceLT, eq_self, ↓reduceIte, ↓binI, Opd.ev, Sx.get, put, putO, del, dels, BB, ↓PB]
      have hl := endsS_len (d := d) hs (Nat.le_refl 35)
      have f9 := f92 (tS := tH2) (endsS d sig 35) (by omega) (by omega)
      rw [hl] at f9
      refine ⟨[(3, 0), (4, 0)], _, _, _, _, 2, f9, rfl, ⟨⟨_, rfl, rfl, rfl, rfl⟩, ⟨_, rfl, rfl, rfl, (ren_bytes _ _).symm⟩, trivial⟩,
        ⟨by intro x hx; simp at hx; subst hx; intro _; simp [eta], ⟨by simp, trivial⟩⟩, ⟨by decide, by decide, trivial⟩, by intro x hx; simp at hx; rcases hx with rfl | rfl <;> decide, trivial, ?_⟩
      simp (config := { maxSteps := 1000000 }) only [reduceCtorEq, Nat.reduceEqDiff, Nat.reduceAdd, Nat.reduceSub, eq_self, ↓reduceIte, ↓evRes, Opd.ev, Sx.get, put, putO, del, dels, rm, retOf, eta, SV.ren, newOwn, targets, rms, Kind.isOwn, BB, ↓PB]
      exact ⟨[(0, 0), (1, 0), (2, 0)], rfl, by simp [compat, apartM, keysBelow, eta, idHs, rd, SV.ren, SV.renL, Nat.reduceAdd, Nat.reduceLT, Nat.reduceLeDiff, ↓reduceIte, Kind.isOwn, exists_eq_left', ne_eq, implies_true, forall_const, forall_eq, BB]⟩
def recS (d sig : List UInt8) : List UInt8 := ofS 5 [endsS d sig 35]
def tabRc : List (FuncId × GS) := [(77, gDigs), (39, gOf)]
theorem tabRc_ok : ∀ x ∈ tabRc, FunS Tryd.prog tH2 x.1 x.2 := by
  intro x hx
  simp only [tabRc, List.mem_cons, List.not_mem_nil, or_false] at hx
  rcases hx with rfl | rfl
  · exact gDigs_ok
  · exact gOf_ok.more tHH
theorem okT_1' {tag : Int} {s : List UInt8} (hs : s.length ≤ 2 ^ 36) : okT tag [s] := by
  refine ⟨fun p hp => ?_, ?_, by simp⟩
  · simp only [List.mem_singleton] at hp
    subst hp
    omega
  · have := encI_len (s.length : Int)
    simp [ofM, encS]
    omega
theorem gOf_eq1 {tag : Int} {s : List UInt8} (hs : s.length ≤ 2 ^ 36) : gOf [.int .i64 tag, .slc 0 0 1 1 none] [(0, ⟨.view, [.str s]⟩)] = some (.agg (bys (ofS tag [s])), [], 1) := by
  unfold gOf
  simp only
  rw [show [SV.str s] = strs [s] from rfl, unStr_strs]
  simp only [capB, List.length_cons, List.length_nil]
  rw [if_pos ⟨trivial, okT_1' hs⟩]
theorem gOfR_eq1 {tag : Int} {s : List UInt8} (hs : s.length ≤ 2 ^ 36) : gOfR [.int .i64 tag, .slc 0 0 1 1 none] [(0, ⟨.view, [.str s]⟩)] = some (.agg (bys (ofS tag [s])), [], 1) := by
  unfold gOfR
  simp only
  rw [show [SV.str s] = strs [s] from rfl, unStr_strs]
  simp only [capB, List.length_cons, List.length_nil]
  rw [if_pos ⟨trivial, okT_1' hs⟩]
theorem gDigs_eq {d : List UInt8} (hd : d.length = 16) : gDigs [.agg (bys d)] [] = some (.slc 0 0 1 35 (some 35), [(0, ⟨.own 128, ints (digS d)⟩)], 1) := by
  unfold gDigs
  simp only [unB_bytes]
  rw [if_pos hd]
def cRc : CallT := callAnd 78 (callT Tryd.prog tH2) (callS tabRc cF)
theorem cRc_ok : ∀ f a m n K, cRc f a m n K → callT Tryd.prog tH2 f a m n K := callAnd_ok (callS_ok tabRc_ok cF_ok)
def zero16 : List UInt8 := List.replicate 16 0
set_option maxHeartbeats 4000000 in
theorem f62 (d sig : List UInt8) (hd : d.length = 16) (hs : sig.length = 560) : Fun Tryd.prog tH2 62 [.agg (bys d), .str sig] [] 0 (.tup [.agg (bys (recS d sig)), .int .i64 0]) [] 0 := by
  refine fun_pure none cRc cRc_ok chk62 (show 2 ≤ 17 by decide) (fun η => by simp only [SV.ren, SV.renL, ren_bytes]) ?_
  unfold sf62 om oq ov
  have hl : (bys d).length = 16 := by rw [len_bytes, hd]
  have gd := gDigs_eq hd
  have tb : List.take 16 (bys d) = bys d := List.take_of_length_le (by omega)
  have e560 : ((sig.length : Int) != 560) = false := by rw [hs]; rfl
  simp (config := { maxSteps := 1000000 }) only [cRc, tabRc, ↓gd, hl, tb, e560, lookF, reduceCtorEq, Nat.reduceEqDiff, Nat.reduceAdd, eq_self, frOf, ↓reduceIte, ↓binI, Opd.ev, Sx.get, put, putO, del, dels, rd, upd, splice, SV.cells?, SV.one, canLW, canV, canC, belowL, apH, eta, SV.ren, newOwn, targets, rms, Kind.isOwn, BB, ↓PB]
  refine ⟨[(1, 0), (4, 0), (3, 0)], _, _, _, _, 3, f78 d sig hs, rfl, ⟨⟨_, rfl, rfl, rfl, rfl⟩, ⟨_, rfl, rfl, rfl, rfl⟩, ⟨_, rfl, Nat.le_of_eq (Nat.zero_add _), ?_⟩, trivial⟩,
    ⟨by intro x hx; simp at hx; rcases hx with rfl | rfl <;> (intro _; simp [eta]), ⟨by intro x hx; simp at hx; subst hx; intro _; simp [eta], ⟨by simp, trivial⟩⟩⟩, ⟨by decide, by decide, by decide, trivial⟩,
    by intro x hx; simp at hx; rcases hx with rfl | rfl | rfl <;> decide, ⟨fun _ => rfl, fun _ => rfl, trivial⟩, ?_⟩
  · simp only [eta, BB]
  have hl5 := endsS_len (d := d) hs (Nat.le_refl 35)
  have go := gOf_eq1 (tag := 5) (s := endsS d sig 35) (by omega)
  have hO := ofS_len 5 [endsS d sig 35]
  unfold recS
  generalize ofS 5 [endsS d sig 35] = O at *
  have lO : (bys O).length = 16 := by rw [len_bytes, hO]
  have tO : List.take 16 (bys O) = bys O := List.take_of_length_le (by omega)
  simp (config := { maxSteps := 1000000 }) only [↓go, lO, tO, SV.flatL, SV.flat, lookF, reduceCtorEq, Nat.reduceEqDiff, Nat.reduceAdd, Nat.reduceSub, Nat.reduceLT, eq_self, ↓reduceIte, ↓fillE, ↓evRes, Opd.ev, Sx.get, put, putO, del, dels, rd, rm, upd, splice, SV.cells?, SV.one, retOf, canLW, canV, canC, belowL, apH, apH1, eta, SV.ren, SV.renL, newOwn, targets, rms, Kind.isOwn, BB, ↓PB]
theorem f62e (d sig : List UInt8) (hd : d.length = 16) (hs : sig.length ≠ 560) : Fun Tryd.prog tH2 62 [.agg (bys d), .str sig] [] 0 (.tup [.agg (bys zero16), .int .i64 1]) [] 0 := by
  refine fun_pure none cRc cRc_ok chk62 (show 2 ≤ 17 by decide) (fun η => by simp only [SV.ren, SV.renL, ren_bytes]) ?_
  unfold sf62 om oq ov
  have e560 : ((sig.length : Int) != 560) = true := by simp; omega
  simp (config := { maxSteps := 1000000 }) only [cRc, tabRc, e560, reduceCtorEq, Nat.reduceEqDiff, Nat.reduceAdd, eq_self, frOf, ↓reduceIte, ↓binI, ↓fillE, ↓evRes, Opd.ev, Sx.get, put, putO, del, dels, rd, upd, splice, SV.cells?, SV.one, retOf, BB, ↓PB]
  rfl
end Go.Proofs.YtkfbkooobfepeaaDoor

/- One-time signatures: the reference's public key for which a signature is valid. -/
namespace Go.Proofs.YtkfbkooobfepeaaDoor
open Go Go.Sx Sf
set_option maxRecDepth 100000
set_option linter.unusedVariables false
variable {tS : List (Nat × List SV)}
theorem cpC_len' {X : List UInt8} {i : Nat} (hX : 16 ≤ X.length) (h : i ≤ 16) : (cpC X i).length = 16 := by simp [cpC, len_bytes]; omega
set_option maxHeartbeats 4000000 in
theorem f102 (s : List UInt8) (hs : 16 ≤ s.length) : Fun Tryd.prog tS 102 [.str s] [] 0 (.agg (bys (s.take 16))) [] 0 := by
  refine fun_pure none cF cF_ok chk102 (show 1 ≤ 15 by decide) (fun η => by simp only [SV.ren, ren_bytes]) ?_
  unfold sf102 om oq ov
  simp (config := { maxSteps := 1000000 }) only [reduceCtorEq, Nat.reduceEqDiff, Nat.reduceAdd, frOf, ↓reduceIte, Opd.ev, put, putO, del, dels, BB, ↓PB]
  rw [den_loop]
  have rz : ∀ η, SV.renL η z16 = z16 := fun η => SV.flatL_ren η z16 rfl
  have rC : ∀ η i, SV.renL η (cpC s i) = cpC s i := fun η i => cpC_ren η s i
  refine den_inv cF_ok (σ := Nat) (fun i => [(4, .int .i64 (i : Int)), (3, .ptr 1 0), (2, .ptr 0 0), (0, .str s)]) (fun i => [(1, ⟨.own 36, cpC s i⟩), (0, ⟨.own 36, z16⟩)]) (fun _ => 2)
    (fun i => i ≤ 16) (fun i => 16 - i) 0 ?_ (Nat.zero_le _) ?_
  · exact ⟨[(0, 0), (1, 0)], by simp only [rC, rz, EntM, compat, apartM, keysBelow, eta, idHs, rd, Nat.reduceAdd, Nat.reduceSub, Nat.reduceLT, Nat.reduceLeDiff, ↓reduceIte, Kind.isOwn, exists_eq_left', ne_eq, implies_true, false_imp_iff, forall_const, forall_eq, BB] <;> exact ⟨rfl, rfl⟩, by simp [frEnt, geto, eta, SV.ren, Nat.reduceAdd, Nat.reduceEqDiff, Nat.reduceLeDiff, ↓reduceIte, reduceCtorEq, BB]⟩
  · intro i hi
    have lC := cpC_len' hs hi
    by_cases h16 : i < 16
    · obtain ⟨x, hx⟩ : ∃ x, s[i]? = some x := ⟨s[i]'(by omega), by rw [List.getElem?_eq_getElem]⟩
      have c1 : (i : Int) < 16 := by omega
      have c2 : (0 : Int) ≤ (i : Int) := by omega
      have v4 : IntKind.i64.wrap ((i : Int) + 1) = ((i + 1 : Nat) : Int) := by rw [wrap64_eq (by omega) (by omega)]; omega
      have op := cpC_put hx h16
      simp (config := { maxSteps := 1000000 }) only [c1, c2, hx, v4, lC, op, SV.byte, reduceCtorEq, Nat.reduceEqDiff, Nat.reduceLeDiff, eq_self, ↓reduceIte, ↓binI, Opd.ev, Sx.get, put, putO, del, dels, rd, upd, SV.cells?, SV.one, BB, ↓PB]
      exact ⟨by omega, i + 1, ⟨[(0, 0), (1, 0)], by simp only [rC, rz, EntM, compat, apartM, keysBelow, eta, idHs, rd, Nat.reduceAdd, Nat.reduceSub, Nat.reduceLT, Nat.reduceLeDiff, ↓reduceIte, Kind.isOwn, exists_eq_left', ne_eq, implies_true, false_imp_iff, forall_const, forall_eq, BB], by simp [frEnt, geto, eta, SV.ren, Nat.reduceAdd, Nat.reduceEqDiff, Nat.reduceLeDiff, ↓reduceIte, reduceCtorEq, BB]⟩, by omega, by omega⟩
    · obtain rfl : i = 16 := by omega
      simp (config := { maxSteps := 1000000 }) only [lC, reduceCtorEq, Nat.reduceEqDiff, Int.reduceLT, eq_self, ↓reduceIte, ↓binI, ↓evRes, Opd.ev, Sx.get, put, putO, del, dels, rd, upd, SV.cells?, retOf, BB, ↓PB]
      have tC : List.take 16 (cpC s 16) = cpC s 16 := List.take_of_length_le (by omega)
      have sC : splice z16 0 (cpC s 16) = cpC s 16 := splice_all (by rw [lC]; rfl)
      rw [tC, sC, tC]
      exact ⟨lC, by decide, by omega, cpC_all⟩
def gDigR : List SV → Option SV
  | [.str s] => if 16 ≤ s.length then some (.agg (bys (s.take 16))) else none
  | _ => none
theorem gDigR_eq {s : List UInt8} (h : 16 ≤ s.length) : gDigR [.str s] = some (.agg (bys (s.take 16))) := if_pos h
def tabEn3 : Tab := ⟨[(101, gAdv), (102, gDigR)], []⟩
theorem tabEn3_ok : TabX Tryd.prog tH2 tabEn3 := by
  refine ⟨fun x h args r hr => ?_, fun x h => by simp [tabEn3] at h⟩
  simp only [tabEn3, List.mem_cons, List.not_mem_nil, or_false] at h
  rcases h with rfl | rfl
  · exact tabA101.p (101, gAdv) (by simp) args r hr
  · simp only at hr
    unfold gDigR at hr
    split at hr
    · split at hr
      · rename_i hc
        cases hr
        exact ⟨f102 _ hc, fun η => by simp only [SV.renL, SV.ren], fun η => by simp only [SV.renL, SV.ren, ren_bytes]⟩
      · cases hr
    · cases hr
theorem gDigsR_eq {d : List UInt8} (hd : d.length = 16) : gDigsR [.agg (bys d)] [] = some (.slc 0 0 1 35 none, [(0, ⟨.own 3, ints (digS d)⟩)], 1) := by
  unfold gDigsR
  simp only [unB_bytes]
  rw [if_pos hd]
theorem gText_eq {d : List UInt8} (hd : d.length = 16) : gText [.agg (bys d)] [] = some (.str d, [], 0) := by
  unfold gText
  simp only [unB_bytes]
  rw [if_pos hd]
def tabEs : List (FuncId × GS) := [(100, gDigsR), (37, gText)]
theorem tabEs_ok : ∀ x ∈ tabEs, FunS Tryd.prog tH2 x.1 x.2 := by
  intro x hx
  simp only [tabEs, List.mem_cons, List.not_mem_nil, or_false] at hx
  rcases hx with rfl | rfl
  · exact gDigsR_ok
  · exact gText_ok
def cEs : CallT := callS tabEs (callX tabEn3)
theorem cEs_ok : ∀ f a m n K, cEs f a m n K → callT Tryd.prog tH2 f a m n K := callS_ok tabEs_ok (callX_ok tabEn3_ok)
set_option maxHeartbeats 4000000 in
theorem f83 (d sig : List UInt8) (hd : d.length = 16) (hs : sig.length = 560) : Fun Tryd.prog tH2 83 [.agg (bys d), .str sig] [] 0 (.str (endsS d sig 35)) [] 0 := by
  refine fun_pure none cEs cEs_ok chk83 (show 2 ≤ 29 by decide) (fun η => rfl) ?_
  unfold sf83 oh om oq
  have hl : (bys d).length = 16 := by rw [len_bytes, hd]
  have gd := gDigsR_eq hd
  have tb : List.take 16 (bys d) = bys d := List.take_of_length_le (by omega)
  simp (config := { maxSteps := 1000000 }) only [cEs, tabEs, tabEn3, ↓gd, hl, tb, lookF, reduceCtorEq, Nat.reduceEqDiff, Nat.reduceAdd, eq_self, frOf, ↓reduceIte, Opd.ev, Sx.get, put, putO, del, dels, rd, SV.cells?, canLW, canV, canC, belowL, apH, eta, SV.ren, newOwn, targets, rms, Kind.isOwn, BB, ↓PB]
  rw [den_loop]
  have rI : ∀ η, SV.renL η (ints (digS d)) = ints (digS d) := fun η => ren_ints η _
  have dl := digS_len d
  refine den_inv cEs_ok (σ := Nat) (fun k => [(7, .int .i64 (k : Int)), (6, .str (endsS d sig k)), (5, .slc 1 0 1 35 none), (1, .str sig)]) (fun _ => [(1, ⟨.own 3, ints (digS d)⟩)]) (fun _ => 2)
    (fun k => k ≤ 35) (fun k => 35 - k) 0 ?_ (Nat.zero_le _) ?_
  · exact ⟨[(0, 0), (1, 0)], by simp only [rI, EntM, compat, apartM, keysBelow, eta, idHs, rd, Nat.reduceAdd, Nat.reduceSub, Nat.reduceLT, Nat.reduceLeDiff, ↓reduceIte, Kind.isOwn, exists_eq_left', ne_eq, implies_true, false_imp_iff, forall_const, BB], by simp [endsS, frEnt, geto, eta, SV.ren, Nat.reduceAdd, Nat.reduceEqDiff, Nat.reduceLeDiff, ↓reduceIte, BB]⟩
  · intro k hk
    by_cases h35 : k < 35
    · obtain ⟨ht, hg⟩ := digT_get d h35
      have gg := get_ints hg
      have hp := partS_len hs h35
      have c1 : (k : Int) < 35 := by omega
      have c2 : (0 : Int) ≤ (k : Int) := by omega
      have v4 : IntKind.i64.wrap ((k : Int) + 1) = ((k + 1 : Nat) : Int) := by rw [wrap64_eq (by omega) (by omega)]; omega
      have w1 : IntKind.i64.wrap (16 * (k : Int)) = ((16 * k : Nat) : Int) := by rw [wrap64_eq (by omega) (by omega)]; omega
      have b1 : (0 : Int) ≤ ((16 * k : Nat) : Int) := by omega
      have b2 : ((16 * k : Nat) : Int) ≤ (sig.length : Int) := by omega
      have gr := gDigR_eq (s := List.take (sig.length - 16 * k) (List.drop (16 * k) sig)) (by simp; omega)
      have ps : List.take 16 (List.take (sig.length - 16 * k) (List.drop (16 * k) sig)) = partS sig k := by
        unfold partS
        rw [List.take_take, Nat.min_eq_left (by omega)]
      rw [ps] at gr
      have ga := gAdv_eq (k := k) (h := digT d k) (v := partS sig k) (by omega) ht hp
      have ee : advS k (15 - digT d k) (digT d k) (partS sig k) = endS d sig k := rfl
      rw [ee] at ga
      have hel := endS_len (d := d) hs h35
      have gt := gText_eq hel
      have hst := endsS_step d sig k
      have fp := flat_bytes (partS sig k)
      have fe := flat_bytes (endS d sig k)
      simp (config := { maxSteps := 1000000 }) only [↓gr, ↓ga, ↓gt, gg, dl, c1, c2, v4, w1, b1, b2, fp, fe, hst, SV.flatL, SV.flat, lookF, Nat.reduceEqDiff, eq_self, ↓reduceIte, ↓binI, ↓binS, evA, Opd.ev, Sx.get, put, putO, del, dels, frD, memD, pickD, kills, views, newer, rd, canLW, canV, canC, belowL, apH, SV.ren, newOwn, targets, rms, BB, ↓PB]
      have hlk := endsS_len (d := d) hs hk
      exact ⟨h35, by omega, by unfold maxStr; omega, k + 1, ⟨[(0, 0), (1, 0)], by simp only [rI, EntM, compat, apartM, keysBelow, eta, idHs, rd, Nat.reduceAdd, Nat.reduceSub, Nat.reduceLT, Nat.reduceLeDiff, ↓reduceIte, Kind.isOwn, exists_eq_left', ne_eq, implies_true, false_imp_iff, forall_const, BB], by simp [frEnt, geto, eta, SV.ren, Nat.reduceAdd, Nat.reduceEqDiff, Nat.reduceLeDiff, ↓reduceIte, BB]⟩, by omega, by omega⟩
    · obtain rfl : k = 35 := by omega
      simp (config := { maxSteps := 1000000 }) only [Nat.reduceEqDiff, Int.reduceLT, eq_self, ↓reduceIte, ↓binI, ↓evRes, Opd.ev, Sx.get, put, putO, del, dels, retOf, BB, ↓PB]
def gEnds : List SV → Option SV
  | [.agg cells, .str sig] => match unB cells with
    | some d => if d.length = 16 ∧ sig.length = 560 then some (.str (endsS d sig 35)) else none
    | none => none
  | _ => none
theorem gEnds_eq {d sig : List UInt8} (hd : d.length = 16) (hs : sig.length = 560) : gEnds [.agg (bys d), .str sig] = some (.str (endsS d sig 35)) := by
  unfold gEnds
  simp only [unB_bytes]
  rw [if_pos ⟨hd, hs⟩]
def tabEe : Tab := ⟨[(83, gEnds)], []⟩
theorem tabEe_ok : TabX Tryd.prog tH2 tabEe := by
  refine ⟨fun x h args r hr => ?_, fun x h => by simp [tabEe] at h⟩
  simp only [tabEe, List.mem_singleton] at h
  subst h
  simp only at hr
  unfold gEnds at hr
  split at hr
  · split at hr
    · rename_i d hd
      split at hr
      · rename_i hc
        cases hr
        rw [unB_some hd]
        exact ⟨f83 d _ hc.1 hc.2, fun η => by simp only [SV.renL, SV.ren, ren_bytes], fun η => by simp only [SV.renL, SV.ren]⟩
      · cases hr
    · cases hr
  · cases hr
def tabRr : List (FuncId × GS) := [(40, gOfR)]
theorem tabRr_ok : ∀ x ∈ tabRr, FunS Tryd.prog tH2 x.1 x.2 := by
  intro x hx
  simp only [tabRr, List.mem_cons, List.not_mem_nil, or_false] at hx
  subst hx
  exact gOfR_ok
def cRr : CallT := callS tabRr (callX tabEe)
theorem cRr_ok : ∀ f a m n K, cRr f a m n K → callT Tryd.prog tH2 f a m n K := callS_ok tabRr_ok (callX_ok tabEe_ok)
theorem f66 (d sig : List UInt8) (hd : d.length = 16) (hs : sig.length = 560) : Fun Tryd.prog tH2 66 [.agg (bys d), .str sig] [] 0 (.tup [.agg (bys (recS d sig)), .int .i64 0]) [] 0 := by
  refine fun_pure none cRr cRr_ok chk66 (show 2 ≤ 15 by decide) (fun η => by simp only [SV.ren, SV.renL, ren_bytes]) ?_
  unfold sf66 om oq ov
  have hl : (bys d).length = 16 := by rw [len_bytes, hd]
  have ge := gEnds_eq hd hs
  have tb : List.take 16 (bys d) = bys d := List.take_of_length_le (by omega)
  have e560 : ((sig.length : Int) != 560) = false := by rw [hs]; rfl
  have hl5 := endsS_len (d := d) hs (Nat.le_refl 35)
  have go := gOfR_eq1 (tag := 5) (s := endsS d sig 35) (by omega)
  have hO := ofS_len 5 [endsS d sig 35]
  unfold recS
  generalize ofS 5 [endsS d sig 35] = O at *
  have lO : (bys O).length = 16 := by rw [len_bytes, hO]
  have tO : List.take 16 (bys O) = bys O := List.take_of_length_le (by omega)
  simp (config := { maxSteps := 1000000 }) only [cRr, tabRr, tabEe, ↓ge, ↓go, hl, tb, e560, lO, tO, SV.flatL, SV.flat, lookF, reduceCtorEq, Nat.reduceEqDiff, Nat.reduceAdd, Nat.reduceSub, Nat.reduceLT, eq_self, frOf, ↓reduceIte, ↓binI, ↓fillE, ↓evRes, Opd.ev, Sx.get, put, putO, del, dels, rd, upd, splice, SV.cells?, SV.one, retOf, canLW, canV, canC, belowL, apH, apH1, SV.ren, newOwn, targets, rms, Kind.isOwn, BB, ↓PB]
theorem f66e (d sig : List UInt8) (hd : d.length = 16) (hs : sig.length ≠ 560) : Fun Tryd.prog tH2 66 [.agg (bys d), .str sig] [] 0 (.tup [.agg (bys zero16), .int .i64 1]) [] 0 := by
  refine fun_pure none cRr cRr_ok chk66 (show 2 ≤ 15 by decide) (fun η => by simp only [SV.ren, SV.renL, ren_bytes]) ?_
  unfold sf66 om oq ov
  have e560 : ((sig.length : Int) != 560) = true := by simp; omega
  simp (config := { maxSteps := 1000000 }) only [cRr, tabRr, tabEe, e560, reduceCtorEq, Nat.reduceEqDiff, Nat.reduceAdd, eq_self, frOf, ↓reduceIte, ↓binI, ↓fillE, ↓evRes, Opd.ev, Sx.get, put, putO, del, dels, rd, upd, splice, SV.cells?, retOf, BB, ↓PB]
  rfl
def gRec : List SV → Option SV
  | [.agg cells, .str sig] => match unB cells with
    | some d => if d.length = 16 then (match decide (sig.length = 560) with
      | true => some (.tup [.agg (bys (recS d sig)), .int .i64 0])
      | false => some (.tup [.agg (bys zero16), .int .i64 1])) else none
    | none => none
  | _ => none
theorem gRec_yes {d sig : List UInt8} (hd : d.length = 16) (hs : sig.length = 560) : gRec [.agg (bys d), .str sig] = some (.tup [.agg (bys (recS d sig)), .int .i64 0]) := by
  unfold gRec
  simp only [unB_bytes]
  rw [if_pos hd, decide_eq_true hs]
theorem gRec_no {d sig : List UInt8} (hd : d.length = 16) (hs : sig.length ≠ 560) : gRec [.agg (bys d), .str sig] = some (.tup [.agg (bys zero16), .int .i64 1]) := by
  unfold gRec
  simp only [unB_bytes]
  rw [if_pos hd, decide_eq_false hs]
theorem gRec_of {f : FuncId} (H1 : ∀ d sig : List UInt8, d.length = 16 → sig.length = 560 → Fun Tryd.prog tH2 f [.agg (bys d), .str sig] [] 0 (.tup [.agg (bys (recS d sig)), .int .i64 0]) [] 0)
    (H2 : ∀ d sig : List UInt8, d.length = 16 → sig.length ≠ 560 → Fun Tryd.prog tH2 f [.agg (bys d), .str sig] [] 0 (.tup [.agg (bys zero16), .int .i64 1]) [] 0) :
    ∀ args r, gRec args = some r → Fun Tryd.prog tH2 f args [] 0 r [] 0 ∧ (∀ η, SV.renL η args = args) ∧ ∀ η, r.ren η = r := by
  intro args r hr
  unfold gRec at hr
  split at hr
  · split at hr
    · rename_i d hd
      split at hr
      · rename_i hc
        rw [unB_some hd]
        split at hr
        · rename_i h; cases hr; exact ⟨H1 d _ hc (of_decide_eq_true h), fun η => by simp only [SV.renL, SV.ren, ren_bytes], fun η => by simp only [SV.renL, SV.ren, ren_bytes]⟩
        · rename_i h; cases hr; exact ⟨H2 d _ hc (of_decide_eq_false h), fun η => by simp only [SV.renL, SV.ren, ren_bytes], fun η => by simp only [SV.renL, SV.ren, ren_bytes]⟩
      · cases hr
    · cases hr
  · cases hr
theorem gRec62 : ∀ args r, gRec args = some r → Fun Tryd.prog tH2 62 args [] 0 r [] 0 ∧ (∀ η, SV.renL η args = args) ∧ ∀ η, r.ren η = r := gRec_of f62 f62e
theorem gRec66 : ∀ args r, gRec args = some r → Fun Tryd.prog tH2 66 args [] 0 r [] 0 ∧ (∀ η, SV.renL η args = args) ∧ ∀ η, r.ren η = r := gRec_of f66 f66e
end Go.Proofs.YtkfbkooobfepeaaDoor

/- Merkle trees: the reference's inputs of a proof. -/
namespace Go.Proofs.YtkfbkooobfepeaaDoor
open Go Go.Sx Sf
set_option maxRecDepth 100000
set_option linter.unusedVariables false
theorem bitB_eq (i t : Nat) : bitB i t = i.testBit t := (Nat.testBit_eq_decide_div_mod_eq).symm
theorem bit_low {i h : Nat} (hi : i < 2 ^ h) : bitB i h = false := by rw [bitB_eq]; exact Nat.testBit_lt_two_pow hi
theorem bit_high {i h : Nat} (h1 : 2 ^ h ≤ i) (h2 : i < 2 ^ (h + 1)) : bitB i h = true := by
  rw [bitB_eq, show i = 2 ^ h + (i - 2 ^ h) by omega, Nat.testBit_two_pow_add_eq, Nat.testBit_lt_two_pow (by rw [Nat.pow_succ] at h2; omega)]
  rfl
theorem bit_rest {i h j : Nat} (h1 : 2 ^ h ≤ i) (hj : j < h) : bitB (i - 2 ^ h) j = bitB i j := by
  rw [bitB_eq, bitB_eq, show i.testBit j = (2 ^ h + (i - 2 ^ h)).testBit j by rw [show 2 ^ h + (i - 2 ^ h) = i by omega], Nat.testBit_two_pow_add_gt hj]
theorem inK_congr {i i' : Nat} {d X X' : List UInt8} : ∀ h, (∀ j, j < h → bitB i j = bitB i' j) → (∀ j, j < h → prf X j = prf X' j) → inK i d X h = inK i' d X' h
  | 0, _, _ => rfl
  | h + 1, hb, hp => by
    unfold inK
    rw [hb h (by omega), hp h (by omega), inK_congr h (fun j hj => hb j (by omega)) (fun j hj => hp j (by omega))]
theorem prf_take {X : List UInt8} {h j : Nat} (hj : j < h) : prf (X.take (16 * h)) j = prf X j := by
  unfold prf
  rw [List.drop_take, List.take_take, Nat.min_eq_left (by omega)]
def gShN : GS
  | [.slc 0 0 1 len none], [(0, ⟨.view, cells⟩)] => match unB cells with
    | some m => if len = m.length ∧ m.length ≤ 2 ^ 37 then some (.agg (bys (shS m)), [], 1) else none
    | none => none
  | _, _ => none
theorem gShN_eq {m : List UInt8} {n : Nat} (hn : m.length = n) (hm : n ≤ 2 ^ 37) : gShN [.slc 0 0 1 n none] [(0, ⟨.view, bys m⟩)] = some (.agg (bys (shS m)), [], 1) := by
  unfold gShN
  simp only [unB_bytes]
  rw [if_pos ⟨hn.symm, by omega⟩]
theorem view_take (X : List UInt8) (a : Nat) (η : Nat → Nat × Nat) : SV.renL η (bys (X.take a)) = List.take (bys (X.take a)).length (List.drop 0 (bys X)) := by
  rw [ren_bytes, len_bytes, List.drop_zero, List.length_take]
  simp only [bys, List.map_take]
  rcases Nat.le_total a X.length with h | h
  · rw [Nat.min_eq_left h]
  · rw [Nat.min_eq_right h, List.take_of_length_le (by simpa using h), List.take_of_length_le (by simp)]
theorem gSh55 : FunS Tryd.prog tH2 55 gShN := by
  intro a0 m0 r m1 n1 h
  unfold gShN at h
  split at h
  · split at h
    · rename_i m hm
      split at h
      · rename_i hc
        cases h
        obtain ⟨rfl, h2⟩ := hc
        rw [unB_some hm]
        exact ⟨f55 m h2 none (fun c hc => by cases hc), by simp [freshB]⟩
      · cases h
    · cases h
  · cases h
theorem okT_2 {tag : Int} {a b : List UInt8} (ha : a.length ≤ 2 ^ 30) (hb : b.length ≤ 2 ^ 30) : okT tag [a, b] := by
  refine ⟨fun p hp => ?_, ?_, by simp⟩
  · simp only [List.mem_cons, List.not_mem_nil, or_false] at hp
    rcases hp with rfl | rfl <;> omega
  · have h1 := encI_len (a.length : Int)
    have h2 := encI_len (b.length : Int)
    simp [ofM, encS]
    omega
theorem gIn1 {d : List UInt8} (hd : d.length = 16) : gIn [.int .i64 1, .slc 0 0 1 1 none] [(0, ⟨.view, [.str d]⟩)] = some (.slc 1 0 1 19 none, [(1, ⟨.own 5, bys (ofM 1 [d])⟩)], 2) := by
  have h1 : okT 1 [d] := okT_1' (by omega)
  unfold gIn
  simp only [unStr, capB]
  rw [if_pos ⟨rfl, h1⟩, leaf_len hd]
theorem gIn2 {a b : List UInt8} (ha : a.length = 16) (hb : b.length = 16) : gIn [.int .i64 2, .slc 0 0 1 2 none] [(0, ⟨.view, [.str a, .str b]⟩)] = some (.slc 1 0 1 37 none, [(1, ⟨.own 5, bys (ofM 2 [a, b])⟩)], 2) := by
  have h1 : okT 2 [a, b] := okT_2 (by omega) (by omega)
  unfold gIn
  simp only [unStr, capB]
  rw [if_pos ⟨rfl, h1⟩, node_len ha hb]
def tabMg : List (FuncId × GS) := [(55, gShN), (56, gIn), (37, gText)]
theorem tabMg_ok : ∀ x ∈ tabMg, FunS Tryd.prog tH2 x.1 x.2 := by
  intro x hx
  simp only [tabMg, List.mem_cons, List.not_mem_nil, or_false] at hx
  rcases hx with rfl | rfl | rfl
  · exact gSh55
  · exact gIn_ok
  · exact gText_ok
theorem cX_ok : ∀ f a m n K, callX ⟨[(103, gSpl)], []⟩ f a m n K → callT Tryd.prog tH2 f a m n K := callX_ok (gSpl_of f103)
def cMg : CallT := callAnd 84 (callT Tryd.prog tH2) (callS tabMg (callX ⟨[(103, gSpl)], []⟩))
theorem cMg_ok : ∀ f a m n K, cMg f a m n K → callT Tryd.prog tH2 f a m n K := callAnd_ok (callS_ok tabMg_ok cX_ok)
def Inp (h : Nat) : Prop := ∀ (i : Nat) (d X : List UInt8), i < 2 ^ h → d.length = 16 → X.length = 16 * h →
  Fun Tryd.prog tH2 84 [.int .i64 (P2 h), .int .i64 (i : Int), .agg (bys d), .slc 0 0 16 h none] [(0, ⟨.view, bys X⟩)] 1
    (.tup [.slc 1 0 1 (h + 1) none, .bool true]) [(1, ⟨.own 56, ouC 3 2 h⟩), (2, ⟨.own 5, bys (inK i d X h)⟩)] (3 + h)
set_option maxHeartbeats 8000000 in
theorem f84n (d : List UInt8) (hd : d.length = 16) :
    Fun Tryd.prog tH2 84 [.int .i64 1, .int .i64 0, .agg (bys d), .val (.slice none 0 0)] [] 0
      (.tup [.slc 0 0 1 1 none, .bool true]) [(0, ⟨.own 56, [.slc 1 0 1 19 none]⟩), (1, ⟨.own 5, bys (ofM 1 [d])⟩)] 2 := by
  refine fun_any none cMg cMg_ok chk84 (show 4 ≤ 107 by decide) (by decide) ?_
  unfold sf84 og oh om oq ov
  have hl : (bys d).length = 16 := by rw [len_bytes, hd]
  have td := take16 hd
  have gt := gText_eq hd
  have gi := gIn1 hd
  simp (config := { maxSteps := 1000000 }) only [cMg, tabMg, hl, td, ↓gt, ↓gi, SV.flatL, SV.flat, Int.reduceGE, lookF, setv, reduceCtorEq, Nat.reduceEqDiff, Nat.reduceAdd, Nat.reduceSub, Nat.reduceLT, Int.reduceLT, eq_self, frOf, setv, ↓reduceIte, ↓binI, ↓fillE, ↓evRes, Opd.ev, Sx.get, put, putO, del, dels, rd, splice, SV.cells?, SV.one, retOf, canLW, canV, canC, belowL, apH, apH1, eta, SV.ren, SV.renL, newOwn, targets, rms, Kind.isOwn, BB, ↓PB]
  exact ⟨[(3, 0), (2, 0)], by simp [SV.ren, EntM, compat, apartM, keysBelow, eta, idHs, rd, SV.ren, SV.renL, Nat.reduceAdd, Nat.reduceLeDiff, ↓reduceIte, Kind.isOwn, exists_eq_left', ne_eq, implies_true, forall_const, forall_eq, BB]⟩
set_option maxHeartbeats 8000000 in
theorem f84e : Inp 0 := by
  intro i d X hi hd hX
  obtain rfl : i = 0 := by simpa using hi
  obtain rfl : X = [] := List.length_eq_zero_iff.1 hX
  show Fun Tryd.prog tH2 84 [.int .i64 1, .int .i64 0, .agg (bys d), .slc 0 0 16 0 none] [(0, ⟨.view, []⟩)] 1
    (.tup [.slc 1 0 1 1 none, .bool true]) [(1, ⟨.own 56, [.slc 2 0 1 19 none]⟩), (2, ⟨.own 5, bys (ofM 1 [d])⟩)] 3
  refine fun_any none cMg cMg_ok chk84 (show 4 ≤ 107 by decide) (by decide) ?_
  unfold sf84 og oh om oq ov
  have hl : (bys d).length = 16 := by rw [len_bytes, hd]
  have td := take16 hd
  have gt := gText_eq hd
  have gi := gIn1 hd
  simp (config := { maxSteps := 1000000 }) only [cMg, tabMg, hl, td, ↓gt, ↓gi, SV.flatL, SV.flat, Int.reduceGE, lookF, setv, reduceCtorEq, Nat.reduceEqDiff, Nat.reduceAdd, Nat.reduceSub, Nat.reduceLT, Int.reduceLT, eq_self, frOf, setv, ↓reduceIte, ↓binI, ↓fillE, ↓evRes, Opd.ev, Sx.get, put, putO, del, dels, rd, splice, SV.cells?, SV.one, retOf, canLW, canV, canC, belowL, apH, apH1, eta, SV.ren, SV.renL, newOwn, targets, rms, Kind.isOwn, BB, ↓PB]
  exact ⟨[(0, 0), (4, 0), (3, 0)], by simp [SV.ren, EntM, compat, apartM, keysBelow, eta, idHs, rd, SV.ren, SV.renL, Nat.reduceAdd, Nat.reduceLT, Nat.reduceLeDiff, ↓reduceIte, Kind.isOwn, exists_eq_left', ne_eq, implies_true, forall_const, forall_eq, BB]⟩
set_option maxHeartbeats 8000000 in
theorem f84s0 (IH : Inp 0) : Inp 1 := by
  intro i d X hi hd hX
  show Fun Tryd.prog tH2 84 [.int .i64 2, .int .i64 (i : Int), .agg (bys d), .slc 0 0 16 1 none] [(0, ⟨.view, bys X⟩)] 1
    (.tup [.slc 1 0 1 2 none, .bool true]) [(1, ⟨.own 56, ouC 3 2 1⟩), (2, ⟨.own 5, bys (inK i d X 1)⟩)] 4
  have hi : i < 2 := hi
  have hX : X.length = 16 := hX
  refine fun_any none cMg cMg_ok chk84 (show 4 ≤ 107 by decide) (by decide) ?_
  unfold sf84 og oh om oq ov
  have hl : (bys d).length = 16 := by rw [len_bytes, hd]
  have td := take16 hd
  have lX : (bys X).length = 16 := by rw [len_bytes, hX]
  have pl : (prf X 0).length = 16 := by simp [prf, hX]
  have lP : (bys (prf X 0)).length = 16 := by rw [len_bytes, pl]
  have tP : List.take 16 (bys X) = bys (prf X 0) := by simp [prf, bys, List.map_take]
  have ttP := take16 pl
  have gs : gSpl [.int .i64 2] = some (.int .i64 1) := rfl
  have c1 : ¬ (i : Int) < 0 := by omega
  have c2 : ¬ (i : Int) ≥ 2 := by omega
  have gtP := gText_eq pl
  have hin : inK i d X 1 = if bitB i 0 = true then ofM 2 [prf X 0, shS (inK i d X 0)] else ofM 2 [shS (inK i d X 0), prf X 0] := rfl
  have il : (inK i d X 0).length = 19 := inK_len (h := 1) hd hX 0 (by decide)
  have sl := shS_len (inK i d X 0)
  have gsh := gShN_eq il (by omega)
  have tI : List.take 19 (bys (inK i d X 0)) = bys (inK i d X 0) := List.take_of_length_le (by rw [len_bytes, il]; omega)
  have lI : (bys (inK i d X 0)).length = 19 := by rw [len_bytes, il]
  have gtS := gText_eq sl
  have gi1 := gIn2 sl pl
  have gi2 := gIn2 pl sl
  have lS : (bys (shS (inK i d X 0))).length = 16 := by rw [len_bytes, sl]
  have ttS := take16 sl
  have xl : (X.take 0).length = 16 * 0 := by rw [List.length_take, hX]; omega
  by_cases hb : i < 1
  · have c3 : (i : Int) < 1 := by omega
    have F := IH i d (X.take 0) hb hd xl
    rw [inK_congr (i' := i) (X' := X) 0 (fun _ _ => rfl) (fun j hj => prf_take (h := 0) hj)] at F
    have hbit : bitB i 0 = false := bit_low (h := 0) hb
    rw [hbit] at hin
    simp only [Bool.false_eq_true, if_false] at hin
    simp (config := { maxSteps := 1000000 }) only [cMg, tabMg, gs, c1, c2, c3, hl, td, lX, tP, lP, SV.flatL, SV.flat, Int.reduceBEq, lookF, setv, reduceCtorEq, Nat.reduceEqDiff, Nat.reduceAdd, Nat.reduceMul, Nat.reduceLT, Int.reduceToNat, Int.reduceLT, Int.reduceLE, Int.reduceSub, Int.reduceNeg, eq_self, frOf, setv, ↓reduceIte, ↓binI, Opd.ev, Sx.get, put, putO, del, dels, rd, upd, splice, SV.cells?, BB, ↓PB]
    refine ⟨[(0, 0)], _, _, _, _, _, F, ?_, ⟨⟨_, rfl, ?_, ?_⟩, trivial⟩, ⟨by simp, trivial⟩, ⟨by decide, trivial⟩, by simp, ⟨fun _ => rfl, fun _ => rfl, trivial⟩, ?_⟩
    · simp only [SV.renL, SV.ren, ren_bytes, eta, List.getElem?_cons_zero, Option.getD_some] <;> rfl
    · simp only [len_bytes, xl, hX, eta, List.getElem?_cons_zero, Option.getD_some]; omega
    · exact view_take _ _ _
    simp (config := { maxSteps := 1000000 }) only [lP, ttP, ↓gsh, ↓gtS, ↓gtP, ↓gi1, tI, lI, ouC, List.range, List.range.loop, lenK, Nat.reduceAdd, SV.flatL, SV.flat, lookF, reduceCtorEq, Nat.reduceEqDiff, Nat.reduceAdd, Nat.reduceSub, Nat.reduceMul, Nat.reduceLeDiff, Nat.reduceLT, Int.reduceToNat, Int.reduceLT, Int.reduceLE, Int.reduceSub, Int.reduceNeg, eq_self, ↓reduceIte, ↓binI, ↓binS, ↓fillE, ↓evRes, evA, Opd.ev, Sx.get, put, putO, del, dels, frD, memD, pickD, kills, views, newer, rd, rm, splice, SV.cells?, SV.one, retOf, canLW, canV, canC, belowL, apH, apH1, eta, SV.ren, SV.renL, newOwn, targets, rms, Kind.isOwn, BB, ↓PB]
    exact ⟨by omega, by omega, [(0, 0), (8, 0), (6, 0), (4, 0)], by simp [hin, Nat.reduceAdd, SV.ren, EntM, compat, apartM, keysBelow, eta, idHs, rd, SV.ren, SV.renL, Nat.reduceAdd, Nat.reduceEqDiff, Nat.reduceLT, Nat.reduceLeDiff, ↓reduceIte, Kind.isOwn, exists_eq_left', ne_eq, implies_true, forall_const, forall_eq, BB]⟩
  · have c3 : ¬ (i : Int) < 1 := by omega
    have F := IH (i - 1) d (X.take 0) (show i - 1 < 1 by omega) hd xl
    rw [inK_congr (i' := i) (X' := X) 0 (fun j hj => bit_rest (h := 0) (by omega) hj) (fun j hj => prf_take (h := 0) hj)] at F
    have w1 : IntKind.i64.wrap ((i : Int) - 1) = ((i - 1 : Nat) : Int) := by rw [wrap64_eq (by omega) (by omega)]; omega
    have hbit : bitB i 0 = true := bit_high (h := 0) (by omega) hi
    rw [hbit] at hin
    simp only [if_true] at hin
    simp (config := { maxSteps := 1000000 }) only [cMg, tabMg, gs, c1, c2, c3, w1, hl, td, lX, tP, lP, SV.flatL, SV.flat, Int.reduceBEq, lookF, setv, reduceCtorEq, Nat.reduceEqDiff, Nat.reduceAdd, Nat.reduceMul, Nat.reduceLT, Int.reduceToNat, Int.reduceLT, Int.reduceLE, Int.reduceSub, Int.reduceNeg, eq_self, frOf, setv, ↓reduceIte, ↓binI, Opd.ev, Sx.get, put, putO, del, dels, rd, upd, splice, SV.cells?, BB, ↓PB]
    refine ⟨[(0, 0)], _, _, _, _, _, F, ?_, ⟨⟨_, rfl, ?_, ?_⟩, trivial⟩, ⟨by simp, trivial⟩, ⟨by decide, trivial⟩, by simp, ⟨fun _ => rfl, fun _ => rfl, trivial⟩, ?_⟩
    · simp only [SV.renL, SV.ren, ren_bytes, eta, List.getElem?_cons_zero, Option.getD_some] <;> rfl
    · simp only [len_bytes, xl, hX, eta, List.getElem?_cons_zero, Option.getD_some]; omega
    · exact view_take _ _ _
    simp (config := { maxSteps := 1000000 }) only [lP, ttP, ↓gsh, ↓gtS, ↓gtP, ↓gi2, tI, lI, ouC, List.range, List.range.loop, lenK, Nat.reduceAdd, SV.flatL, SV.flat, lookF, reduceCtorEq, Nat.reduceEqDiff, Nat.reduceAdd, Nat.reduceSub, Nat.reduceMul, Nat.reduceLeDiff, Nat.reduceLT, Int.reduceToNat, Int.reduceLT, Int.reduceLE, Int.reduceSub, Int.reduceNeg, eq_self, ↓reduceIte, ↓binI, ↓binS, ↓fillE, ↓evRes, evA, Opd.ev, Sx.get, put, putO, del, dels, frD, memD, pickD, kills, views, newer, rd, rm, splice, SV.cells?, SV.one, retOf, canLW, canV, canC, belowL, apH, apH1, eta, SV.ren, SV.renL, newOwn, targets, rms, Kind.isOwn, BB, ↓PB]
    exact ⟨by omega, by omega, [(0, 0), (8, 0), (6, 0), (4, 0)], by simp [hin, Nat.reduceAdd, SV.ren, EntM, compat, apartM, keysBelow, eta, idHs, rd, SV.ren, SV.renL, Nat.reduceAdd, Nat.reduceEqDiff, Nat.reduceLT, Nat.reduceLeDiff, ↓reduceIte, Kind.isOwn, exists_eq_left', ne_eq, implies_true, forall_const, forall_eq, BB]⟩
set_option maxHeartbeats 8000000 in
theorem f84s1 (IH : Inp 1) : Inp 2 := by
  intro i d X hi hd hX
  show Fun Tryd.prog tH2 84 [.int .i64 4, .int .i64 (i : Int), .agg (bys d), .slc 0 0 16 2 none] [(0, ⟨.view, bys X⟩)] 1
    (.tup [.slc 1 0 1 3 none, .bool true]) [(1, ⟨.own 56, ouC 3 2 2⟩), (2, ⟨.own 5, bys (inK i d X 2)⟩)] 5
  have hi : i < 4 := hi
  have hX : X.length = 32 := hX
  refine fun_any none cMg cMg_ok chk84 (show 4 ≤ 107 by decide) (by decide) ?_
  unfold sf84 og oh om oq ov
  have hl : (bys d).length = 16 := by rw [len_bytes, hd]
  have td := take16 hd
  have lX : (bys X).length = 32 := by rw [len_bytes, hX]
  have pl : (prf X 1).length = 16 := by simp [prf, hX]
  have lP : (bys (prf X 1)).length = 16 := by rw [len_bytes, pl]
  have tP : List.take 16 (List.drop 16 (bys X)) = bys (prf X 1) := by simp [prf, bys, List.map_take, List.map_drop]
  have ttP := take16 pl
  have gs : gSpl [.int .i64 4] = some (.int .i64 2) := rfl
  have c1 : ¬ (i : Int) < 0 := by omega
  have c2 : ¬ (i : Int) ≥ 4 := by omega
  have gtP := gText_eq pl
  have hin : inK i d X 2 = if bitB i 1 = true then ofM 2 [prf X 1, shS (inK i d X 1)] else ofM 2 [shS (inK i d X 1), prf X 1] := rfl
  have il : (inK i d X 1).length = 37 := inK_len (h := 2) hd hX 1 (by decide)
  have sl := shS_len (inK i d X 1)
  have gsh := gShN_eq il (by omega)
  have tI : List.take 37 (bys (inK i d X 1)) = bys (inK i d X 1) := List.take_of_length_le (by rw [len_bytes, il]; omega)
  have lI : (bys (inK i d X 1)).length = 37 := by rw [len_bytes, il]
  have gtS := gText_eq sl
  have gi1 := gIn2 sl pl
  have gi2 := gIn2 pl sl
  have lS : (bys (shS (inK i d X 1))).length = 16 := by rw [len_bytes, sl]
  have ttS := take16 sl
  have xl : (X.take 16).length = 16 * 1 := by rw [List.length_take, hX]; omega
  by_cases hb : i < 2
  · have c3 : (i : Int) < 2 := by omega
    have F := IH i d (X.take 16) hb hd xl
    rw [inK_congr (i' := i) (X' := X) 1 (fun _ _ => rfl) (fun j hj => prf_take (h := 1) hj)] at F
    have hbit : bitB i 1 = false := bit_low (h := 1) hb
    rw [hbit] at hin
    simp only [Bool.false_eq_true, if_false] at hin
    simp (config := { maxSteps := 1000000 }) only [cMg, tabMg, gs, c1, c2, c3, hl, td, lX, tP, lP, SV.flatL, SV.flat, Int.reduceBEq, lookF, setv, reduceCtorEq, Nat.reduceEqDiff, Nat.reduceAdd, Nat.reduceMul, Nat.reduceLT, Int.reduceToNat, Int.reduceLT, Int.reduceLE, Int.reduceSub, Int.reduceNeg, eq_self, frOf, setv, ↓reduceIte, ↓binI, Opd.ev, Sx.get, put, putO, del, dels, rd, upd, splice, SV.cells?, BB, ↓PB]
    refine ⟨[(0, 0)], _, _, _, _, _, F, ?_, ⟨⟨_, rfl, ?_, ?_⟩, trivial⟩, ⟨by simp, trivial⟩, ⟨by decide, trivial⟩, by simp, ⟨fun _ => rfl, fun _ => rfl, trivial⟩, ?_⟩
    · simp only [SV.renL, SV.ren, ren_bytes, eta, List.getElem?_cons_zero, Option.getD_some] <;> rfl
    · simp only [len_bytes, xl, hX, eta, List.getElem?_cons_zero, Option.getD_some]; omega
    · exact view_take _ _ _
    simp (config := { maxSteps := 1000000 }) only [lP, ttP, ↓gsh, ↓gtS, ↓gtP, ↓gi1, tI, lI, ouC, List.range, List.range.loop, lenK, Nat.reduceAdd, SV.flatL, SV.flat, lookF, reduceCtorEq, Nat.reduceEqDiff, Nat.reduceAdd, Nat.reduceSub, Nat.reduceMul, Nat.reduceLeDiff, Nat.reduceLT, Int.reduceToNat, Int.reduceLT, Int.reduceLE, Int.reduceSub, Int.reduceNeg, eq_self, ↓reduceIte, ↓binI, ↓binS, ↓fillE, ↓evRes, evA, Opd.ev, Sx.get, put, putO, del, dels, frD, memD, pickD, kills, views, newer, rd, rm, splice, SV.cells?, SV.one, retOf, canLW, canV, canC, belowL, apH, apH1, eta, SV.ren, SV.renL, newOwn, targets, rms, Kind.isOwn, BB, ↓PB]
    exact ⟨by omega, by omega, [(0, 0), (9, 0), (7, 0), (5, 0), (4, 0)], by simp [hin, Nat.reduceAdd, SV.ren, EntM, compat, apartM, keysBelow, eta, idHs, rd, SV.ren, SV.renL, Nat.reduceAdd, Nat.reduceEqDiff, Nat.reduceLT, Nat.reduceLeDiff, ↓reduceIte, Kind.isOwn, exists_eq_left', ne_eq, implies_true, forall_const, forall_eq, BB]⟩
  · have c3 : ¬ (i : Int) < 2 := by omega
    have F := IH (i - 2) d (X.take 16) (show i - 2 < 2 by omega) hd xl
    rw [inK_congr (i' := i) (X' := X) 1 (fun j hj => bit_rest (h := 1) (by omega) hj) (fun j hj => prf_take (h := 1) hj)] at F
    have w1 : IntKind.i64.wrap ((i : Int) - 2) = ((i - 2 : Nat) : Int) := by rw [wrap64_eq (by omega) (by omega)]; omega
    have hbit : bitB i 1 = true := bit_high (h := 1) (by omega) hi
    rw [hbit] at hin
    simp only [if_true] at hin
    simp (config := { maxSteps := 1000000 }) only [cMg, tabMg, gs, c1, c2, c3, w1, hl, td, lX, tP, lP, SV.flatL, SV.flat, Int.reduceBEq, lookF, setv, reduceCtorEq, Nat.reduceEqDiff, Nat.reduceAdd, Nat.reduceMul, Nat.reduceLT, Int.reduceToNat, Int.reduceLT, Int.reduceLE, Int.reduceSub, Int.reduceNeg, eq_self, frOf, setv, ↓reduceIte, ↓binI, Opd.ev, Sx.get, put, putO, del, dels, rd, upd, splice, SV.cells?, BB, ↓PB]
    refine ⟨[(0, 0)], _, _, _, _, _, F, ?_, ⟨⟨_, rfl, ?_, ?_⟩, trivial⟩, ⟨by simp, trivial⟩, ⟨by decide, trivial⟩, by simp, ⟨fun _ => rfl, fun _ => rfl, trivial⟩, ?_⟩
    · simp only [SV.renL, SV.ren, ren_bytes, eta, List.getElem?_cons_zero, Option.getD_some] <;> rfl
    · simp only [len_bytes, xl, hX, eta, List.getElem?_cons_zero, Option.getD_some]; omega
    · exact view_take _ _ _
    simp (config := { maxSteps := 1000000 }) only [lP, ttP, ↓gsh, ↓gtS, ↓gtP, ↓gi2, tI, lI, ouC, List.range, List.range.loop, lenK, Nat.reduceAdd, SV.flatL, SV.flat, lookF, reduceCtorEq, Nat.reduceEqDiff, Nat.reduceAdd, Nat.reduceSub, Nat.reduceMul, Nat.reduceLeDiff, Nat.reduceLT, Int.reduceToNat, Int.reduceLT, Int.reduceLE, Int.reduceSub, Int.reduceNeg, eq_self, ↓reduceIte, ↓binI, ↓binS, ↓fillE, ↓evRes, evA, Opd.ev, Sx.get, put, putO, del, dels, frD, memD, pickD, kills, views, newer, rd, rm, splice, SV.cells?, SV.one, retOf, canLW, canV, canC, belowL, apH, apH1, eta, SV.ren, SV.renL, newOwn, targets, rms, Kind.isOwn, BB, ↓PB]
    exact ⟨by omega, by omega, [(0, 0), (9, 0), (7, 0), (5, 0), (4, 0)], by simp [hin, Nat.reduceAdd, SV.ren, EntM, compat, apartM, keysBelow, eta, idHs, rd, SV.ren, SV.renL, Nat.reduceAdd, Nat.reduceEqDiff, Nat.reduceLT, Nat.reduceLeDiff, ↓reduceIte, Kind.isOwn, exists_eq_left', ne_eq, implies_true, forall_const, forall_eq, BB]⟩
set_option maxHeartbeats 8000000 in
theorem f84s2 (IH : Inp 2) : Inp 3 := by
  intro i d X hi hd hX
  show Fun Tryd.prog tH2 84 [.int .i64 8, .int .i64 (i : Int), .agg (bys d), .slc 0 0 16 3 none] [(0, ⟨.view, bys X⟩)] 1
    (.tup [.slc 1 0 1 4 none, .bool true]) [(1, ⟨.own 56, ouC 3 2 3⟩), (2, ⟨.own 5, bys (inK i d X 3)⟩)] 6
  have hi : i < 8 := hi
  have hX : X.length = 48 := hX
  refine fun_any none cMg cMg_ok chk84 (show 4 ≤ 107 by decide) (by decide) ?_
  unfold sf84 og oh om oq ov
  have hl : (bys d).length = 16 := by rw [len_bytes, hd]
  have td := take16 hd
  have lX : (bys X).length = 48 := by rw [len_bytes, hX]
  have pl : (prf X 2).length = 16 := by simp [prf, hX]
  have lP : (bys (prf X 2)).length = 16 := by rw [len_bytes, pl]
  have tP : List.take 16 (List.drop 32 (bys X)) = bys (prf X 2) := by simp [prf, bys, List.map_take, List.map_drop]
  have ttP := take16 pl
  have gs : gSpl [.int .i64 8] = some (.int .i64 4) := rfl
  have c1 : ¬ (i : Int) < 0 := by omega
  have c2 : ¬ (i : Int) ≥ 8 := by omega
  have gtP := gText_eq pl
  have hin : inK i d X 3 = if bitB i 2 = true then ofM 2 [prf X 2, shS (inK i d X 2)] else ofM 2 [shS (inK i d X 2), prf X 2] := rfl
  have il : (inK i d X 2).length = 37 := inK_len (h := 3) hd hX 2 (by decide)
  have sl := shS_len (inK i d X 2)
  have gsh := gShN_eq il (by omega)
  have tI : List.take 37 (bys (inK i d X 2)) = bys (inK i d X 2) := List.take_of_length_le (by rw [len_bytes, il]; omega)
  have lI : (bys (inK i d X 2)).length = 37 := by rw [len_bytes, il]
  have gtS := gText_eq sl
  have gi1 := gIn2 sl pl
  have gi2 := gIn2 pl sl
  have lS : (bys (shS (inK i d X 2))).length = 16 := by rw [len_bytes, sl]
  have ttS := take16 sl
  have xl : (X.take 32).length = 16 * 2 := by rw [List.length_take, hX]; omega
  by_cases hb : i < 4
  · have c3 : (i : Int) < 4 := by omega
    have F := IH i d (X.take 32) hb hd xl
    rw [inK_congr (i' := i) (X' := X) 2 (fun _ _ => rfl) (fun j hj => prf_take (h := 2) hj)] at F
    have hbit : bitB i 2 = false := bit_low (h := 2) hb
    rw [hbit] at hin
    simp only [Bool.false_eq_true, if_false] at hin
    simp (config := { maxSteps := 1000000 }) only [cMg, tabMg, gs, c1, c2, c3, hl, td, lX, tP, lP, SV.flatL, SV.flat, Int.reduceBEq, lookF, setv, reduceCtorEq, Nat.reduceEqDiff, Nat.reduceAdd, Nat.reduceMul, Nat.reduceLT, Int.reduceToNat, Int.reduceLT, Int.reduceLE, Int.reduceSub, Int.reduceNeg, eq_self, frOf, setv, ↓reduceIte, ↓binI, Opd.ev, Sx.get, put, putO, del, dels, rd, upd, splice, SV.cells?, BB, ↓PB]
    refine ⟨[(0, 0)], _, _, _, _, _, F, ?_, ⟨⟨_, rfl, ?_, ?_⟩, trivial⟩, ⟨by simp, trivial⟩, ⟨by decide, trivial⟩, by simp, ⟨fun _ => rfl, fun _ => rfl, trivial⟩, ?_⟩
    · simp only [SV.renL, SV.ren, ren_bytes, eta, List.getElem?_cons_zero, Option.getD_some] <;> rfl
    · simp only [len_bytes, xl, hX, eta, List.getElem?_cons_zero, Option.getD_some]; omega
    · exact view_take _ _ _
    simp (config := { maxSteps := 1000000 }) only [lP, ttP, ↓gsh, ↓gtS, ↓gtP, ↓gi1, tI, lI, ouC, List.range, List.range.loop, lenK, Nat.reduceAdd, SV.flatL, SV.flat, lookF, reduceCtorEq, Nat.reduceEqDiff, Nat.reduceAdd, Nat.reduceSub, Nat.reduceMul, Nat.reduceLeDiff, Nat.reduceLT, Int.reduceToNat, Int.reduceLT, Int.reduceLE, Int.reduceSub, Int.reduceNeg, eq_self, ↓reduceIte, ↓binI, ↓binS, ↓fillE, ↓evRes, evA, Opd.ev, Sx.get, put, putO, del, dels, frD, memD, pickD, kills, views, newer, rd, rm, splice, SV.cells?, SV.one, retOf, canLW, canV, canC, belowL, apH, apH1, eta, SV.ren, SV.renL, newOwn, targets, rms, Kind.isOwn, BB, ↓PB]
    exact ⟨by omega, by omega, [(0, 0), (10, 0), (8, 0), (5, 0), (6, 0), (4, 0)], by simp [hin, Nat.reduceAdd, SV.ren, EntM, compat, apartM, keysBelow, eta, idHs, rd, SV.ren, SV.renL, Nat.reduceAdd, Nat.reduceEqDiff, Nat.reduceLT, Nat.reduceLeDiff, ↓reduceIte, Kind.isOwn, exists_eq_left', ne_eq, implies_true, forall_const, forall_eq, BB]⟩
  · have c3 : ¬ (i : Int) < 4 := by omega
    have F := IH (i - 4) d (X.take 32) (show i - 4 < 4 by omega) hd xl
    rw [inK_congr (i' := i) (X' := X) 2 (fun j hj => bit_rest (h := 2) (by omega) hj) (fun j hj => prf_take (h := 2) hj)] at F
    have w1 : IntKind.i64.wrap ((i : Int) - 4) = ((i - 4 : Nat) : Int) := by rw [wrap64_eq (by omega) (by omega)]; omega
    have hbit : bitB i 2 = true := bit_high (h := 2) (by omega) hi
    rw [hbit] at hin
    simp only [if_true] at hin
    simp (config := { maxSteps := 1000000 }) only [cMg, tabMg, gs, c1, c2, c3, w1, hl, td, lX, tP, lP, SV.flatL, SV.flat, Int.reduceBEq, lookF, setv, reduceCtorEq, Nat.reduceEqDiff, Nat.reduceAdd, Nat.reduceMul, Nat.reduceLT, Int.reduceToNat, Int.reduceLT, Int.reduceLE, Int.reduceSub, Int.reduceNeg, eq_self, frOf, setv, ↓reduceIte, ↓binI, Opd.ev, Sx.get, put, putO, del, dels, rd, upd, splice, SV.cells?, BB, ↓PB]
    refine ⟨[(0, 0)], _, _, _, _, _, F, ?_, ⟨⟨_, rfl, ?_, ?_⟩, trivial⟩, ⟨by simp, trivial⟩, ⟨by decide, trivial⟩, by simp, ⟨fun _ => rfl, fun _ => rfl, trivial⟩, ?_⟩
    · simp only [SV.renL, SV.ren, ren_bytes, eta, List.getElem?_cons_zero, Option.getD_some] <;> rfl
    · simp only [len_bytes, xl, hX, eta, List.getElem?_cons_zero, Option.getD_some]; omega
    · exact view_take _ _ _
    simp (config := { maxSteps := 1000000 }) only [lP, ttP, ↓gsh, ↓gtS, ↓gtP, ↓gi2, tI, lI, ouC, List.range, List.range.loop, lenK, Nat.reduceAdd, SV.flatL, SV.flat, lookF, reduceCtorEq, Nat.reduceEqDiff, Nat.reduceAdd, Nat.reduceSub, Nat.reduceMul, Nat.reduceLeDiff, Nat.reduceLT, Int.reduceToNat, Int.reduceLT, Int.reduceLE, Int.reduceSub, Int.reduceNeg, eq_self, ↓reduceIte, ↓binI, ↓binS, ↓fillE, ↓evRes, evA, Opd.ev, Sx.get, put, putO, del, dels, frD, memD, pickD, kills, views, newer, rd, rm, splice, SV.cells?, SV.one, retOf, canLW, canV, canC, belowL, apH, apH1, eta, SV.ren, SV.renL, newOwn, targets, rms, Kind.isOwn, BB, ↓PB]
    exact ⟨by omega, by omega, [(0, 0), (10, 0), (8, 0), (5, 0), (6, 0), (4, 0)], by simp [hin, Nat.reduceAdd, SV.ren, EntM, compat, apartM, keysBelow, eta, idHs, rd, SV.ren, SV.renL, Nat.reduceAdd, Nat.reduceEqDiff, Nat.reduceLT, Nat.reduceLeDiff, ↓reduceIte, Kind.isOwn, exists_eq_left', ne_eq, implies_true, forall_const, forall_eq, BB]⟩
set_option maxHeartbeats 8000000 in
theorem f84s3 (IH : Inp 3) : Inp 4 := by
  intro i d X hi hd hX
  show Fun Tryd.prog tH2 84 [.int .i64 16, .int .i64 (i : Int), .agg (bys d), .slc 0 0 16 4 none] [(0, ⟨.view, bys X⟩)] 1
    (.tup [.slc 1 0 1 5 none, .bool true]) [(1, ⟨.own 56, ouC 3 2 4⟩), (2, ⟨.own 5, bys (inK i d X 4)⟩)] 7
  have hi : i < 16 := hi
  have hX : X.length = 64 := hX
  refine fun_any none cMg cMg_ok chk84 (show 4 ≤ 107 by decide) (by decide) ?_
  unfold sf84 og oh om oq ov
  have hl : (bys d).length = 16 := by rw [len_bytes, hd]
  have td := take16 hd
  have lX : (bys X).length = 64 := by rw [len_bytes, hX]
  have pl : (prf X 3).length = 16 := by simp [prf, hX]
  have lP : (bys (prf X 3)).length = 16 := by rw [len_bytes, pl]
  have tP : List.take 16 (List.drop 48 (bys X)) = bys (prf X 3) := by simp [prf, bys, List.map_take, List.map_drop]
  have ttP := take16 pl
  have gs : gSpl [.int .i64 16] = some (.int .i64 8) := rfl
  have c1 : ¬ (i : Int) < 0 := by omega
  have c2 : ¬ (i : Int) ≥ 16 := by omega
  have gtP := gText_eq pl
  have hin : inK i d X 4 = if bitB i 3 = true then ofM 2 [prf X 3, shS (inK i d X 3)] else ofM 2 [shS (inK i d X 3), prf X 3] := rfl
  have il : (inK i d X 3).length = 37 := inK_len (h := 4) hd hX 3 (by decide)
  have sl := shS_len (inK i d X 3)
  have gsh := gShN_eq il (by omega)
  have tI : List.take 37 (bys (inK i d X 3)) = bys (inK i d X 3) := List.take_of_length_le (by rw [len_bytes, il]; omega)
  have lI : (bys (inK i d X 3)).length = 37 := by rw [len_bytes, il]
  have gtS := gText_eq sl
  have gi1 := gIn2 sl pl
  have gi2 := gIn2 pl sl
  have lS : (bys (shS (inK i d X 3))).length = 16 := by rw [len_bytes, sl]
  have ttS := take16 sl
  have xl : (X.take 48).length = 16 * 3 := by rw [List.length_take, hX]; omega
  by_cases hb : i < 8
  · have c3 : (i : Int) < 8 := by omega
    have F := IH i d (X.take 48) hb hd xl
    rw [inK_congr (i' := i) (X' := X) 3 (fun _ _ => rfl) (fun j hj => prf_take (h := 3) hj)] at F
    have hbit : bitB i 3 = false := bit_low (h := 3) hb
    rw [hbit] at hin
    simp only [Bool.false_eq_true, if_false] at hin
    simp (config := { maxSteps := 1000000 }) only [cMg, tabMg, gs, c1, c2, c3, hl, td, lX, tP, lP, SV.flatL, SV.flat, Int.reduceBEq, lookF, setv, reduceCtorEq, Nat.reduceEqDiff, Nat.reduceAdd, Nat.reduceMul, Nat.reduceLT, Int.reduceToNat, Int.reduceLT, Int.reduceLE, Int.reduceSub, Int.reduceNeg, eq_self, frOf, setv, ↓reduceIte, ↓binI, Opd.ev, Sx.get, put, putO, del, dels, rd, upd, splice, SV.cells?, BB, ↓PB]
    refine ⟨[(0, 0)], _, _, _, _, _, F, ?_, ⟨⟨_, rfl, ?_, ?_⟩, trivial⟩, ⟨by simp, trivial⟩, ⟨by decide, trivial⟩, by simp, ⟨fun _ => rfl, fun _ => rfl, trivial⟩, ?_⟩
    · simp only [SV.renL, SV.ren, ren_bytes, eta, List.getElem?_cons_zero, Option.getD_some] <;> rfl
    · simp only [len_bytes, xl, hX, eta, List.getElem?_cons_zero, Option.getD_some]; omega
    · exact view_take _ _ _
    simp (config := { maxSteps := 1000000 }) only [lP, ttP, ↓gsh, ↓gtS, ↓gtP, ↓gi1, tI, lI, ouC, List.range, List.range.loop, lenK, Nat.reduceAdd, SV.flatL, SV.flat, lookF, reduceCtorEq, Nat.reduceEqDiff, Nat.reduceAdd, Nat.reduceSub, Nat.reduceMul, Nat.reduceLeDiff, Nat.reduceLT, Int.reduceToNat, Int.reduceLT, Int.reduceLE, Int.reduceSub, Int.reduceNeg, eq_self, ↓reduceIte, ↓binI, ↓binS, ↓fillE, ↓evRes, evA, Opd.ev, Sx.get, put, putO, del, dels, frD, memD, pickD, kills, views, newer, rd, rm, splice, SV.cells?, SV.one, retOf, canLW, canV, canC, belowL, apH, apH1, eta, SV.ren, SV.renL, newOwn, targets, rms, Kind.isOwn, BB, ↓PB]
    exact ⟨by omega, by omega, [(0, 0), (11, 0), (9, 0), (5, 0), (6, 0), (7, 0), (4, 0)], by simp [hin, Nat.reduceAdd, SV.ren, EntM, compat, apartM, keysBelow, eta, idHs, rd, SV.ren, SV.renL, Nat.reduceAdd, Nat.reduceEqDiff, Nat.reduceLT, Nat.reduceLeDiff, ↓reduceIte, Kind.isOwn, exists_eq_left', ne_eq, implies_true, forall_const, forall_eq, BB]⟩
  · have c3 : ¬ (i : Int) < 8 := by omega
    have F := IH (i - 8) d (X.take 48) (show i - 8 < 8 by omega) hd xl
    rw [inK_congr (i' := i) (X' := X) 3 (fun j hj => bit_rest (h := 3) (by omega) hj) (fun j hj => prf_take (h := 3) hj)] at F
    have w1 : IntKind.i64.wrap ((i : Int) - 8) = ((i - 8 : Nat) : Int) := by rw [wrap64_eq (by omega) (by omega)]; omega
    have hbit : bitB i 3 = true := bit_high (h := 3) (by omega) hi
    rw [hbit] at hin
    simp only [if_true] at hin
    simp (config := { maxSteps := 1000000 }) only [cMg, tabMg, gs, c1, c2, c3, w1, hl, td, lX, tP, lP, SV.flatL, SV.flat, Int.reduceBEq, lookF, setv, reduceCtorEq, Nat.reduceEqDiff, Nat.reduceAdd, Nat.reduceMul, Nat.reduceLT, Int.reduceToNat, Int.reduceLT, Int.reduceLE, Int.reduceSub, Int.reduceNeg, eq_self, frOf, setv, ↓reduceIte, ↓binI, Opd.ev, Sx.get, put, putO, del, dels, rd, upd, splice, SV.cells?, BB, ↓PB]
    refine ⟨[(0, 0)], _, _, _, _, _, F, ?_, ⟨⟨_, rfl, ?_, ?_⟩, trivial⟩, ⟨by simp, trivial⟩, ⟨by decide, trivial⟩, by simp, ⟨fun _ => rfl, fun _ => rfl, trivial⟩, ?_⟩
    · simp only [SV.renL, SV.ren, ren_bytes, eta, List.getElem?_cons_zero, Option.getD_some] <;> rfl
    · simp only [len_bytes, xl, hX, eta, List.getElem?_cons_zero, Option.getD_some]; omega
    · exact view_take _ _ _
    simp (config := { maxSteps := 1000000 }) only [lP, ttP, ↓gsh, ↓gtS, ↓gtP, ↓gi2, tI, lI, ouC, List.range, List.range.loop, lenK, Nat.reduceAdd, SV.flatL, SV.flat, lookF, reduceCtorEq, Nat.reduceEqDiff, Nat.reduceAdd, Nat.reduceSub, Nat.reduceMul, Nat.reduceLeDiff, Nat.reduceLT, Int.reduceToNat, Int.reduceLT, Int.reduceLE, Int.reduceSub, Int.reduceNeg, eq_self, ↓reduceIte, ↓binI, ↓binS, ↓fillE, ↓evRes, evA, Opd.ev, Sx.get, put, putO, del, dels, frD, memD, pickD, kills, views, newer, rd, rm, splice, SV.cells?, SV.one, retOf, canLW, canV, canC, belowL, apH, apH1, eta, SV.ren, SV.renL, newOwn, targets, rms, Kind.isOwn, BB, ↓PB]
    exact ⟨by omega, by omega, [(0, 0), (11, 0), (9, 0), (5, 0), (6, 0), (7, 0), (4, 0)], by simp [hin, Nat.reduceAdd, SV.ren, EntM, compat, apartM, keysBelow, eta, idHs, rd, SV.ren, SV.renL, Nat.reduceAdd, Nat.reduceEqDiff, Nat.reduceLT, Nat.reduceLeDiff, ↓reduceIte, Kind.isOwn, exists_eq_left', ne_eq, implies_true, forall_const, forall_eq, BB]⟩
set_option maxHeartbeats 8000000 in
theorem f84s4 (IH : Inp 4) : Inp 5 := by
  intro i d X hi hd hX
  show Fun Tryd.prog tH2 84 [.int .i64 32, .int .i64 (i : Int), .agg (bys d), .slc 0 0 16 5 none] [(0, ⟨.view, bys X⟩)] 1
    (.tup [.slc 1 0 1 6 none, .bool true]) [(1, ⟨.own 56, ouC 3 2 5⟩), (2, ⟨.own 5, bys (inK i d X 5)⟩)] 8
  have hi : i < 32 := hi
  have hX : X.length = 80 := hX
  refine fun_any none cMg cMg_ok chk84 (show 4 ≤ 107 by decide) (by decide) ?_
  unfold sf84 og oh om oq ov
  have hl : (bys d).length = 16 := by rw [len_bytes, hd]
  have td := take16 hd
  have lX : (bys X).length = 80 := by rw [len_bytes, hX]
  have pl : (prf X 4).length = 16 := by simp [prf, hX]
  have lP : (bys (prf X 4)).length = 16 := by rw [len_bytes, pl]
  have tP : List.take 16 (List.drop 64 (bys X)) = bys (prf X 4) := by simp [prf, bys, List.map_take, List.map_drop]
  have ttP := take16 pl
  have gs : gSpl [.int .i64 32] = some (.int .i64 16) := rfl
  have c1 : ¬ (i : Int) < 0 := by omega
  have c2 : ¬ (i : Int) ≥ 32 := by omega
  have gtP := gText_eq pl
  have hin : inK i d X 5 = if bitB i 4 = true then ofM 2 [prf X 4, shS (inK i d X 4)] else ofM 2 [shS (inK i d X 4), prf X 4] := rfl
  have il : (inK i d X 4).length = 37 := inK_len (h := 5) hd hX 4 (by decide)
  have sl := shS_len (inK i d X 4)
  have gsh := gShN_eq il (by omega)
  have tI : List.take 37 (bys (inK i d X 4)) = bys (inK i d X 4) := List.take_of_length_le (by rw [len_bytes, il]; omega)
  have lI : (bys (inK i d X 4)).length = 37 := by rw [len_bytes, il]
  have gtS := gText_eq sl
  have gi1 := gIn2 sl pl
  have gi2 := gIn2 pl sl
  have lS : (bys (shS (inK i d X 4))).length = 16 := by rw [len_bytes, sl]
  have ttS := take16 sl
  have xl : (X.take 64).length = 16 * 4 := by rw [List.length_take, hX]; omega
  by_cases hb : i < 16
  · have c3 : (i : Int) < 16 := by omega
    have F := IH i d (X.take 64) hb hd xl
    rw [inK_congr (i' := i) (X' := X) 4 (fun _ _ => rfl) (fun j hj => prf_take (h := 4) hj)] at F
    have hbit : bitB i 4 = false := bit_low (h := 4) hb
    rw [hbit] at hin
    simp only [Bool.false_eq_true, if_false] at hin
    simp (config := { maxSteps := 1000000 }) only [cMg, tabMg, gs, c1, c2, c3, hl, td, lX, tP, lP, SV.flatL, SV.flat, Int.reduceBEq, lookF, setv, reduceCtorEq, Nat.reduceEqDiff, Nat.reduceAdd, Nat.reduceMul, Nat.reduceLT, Int.reduceToNat, Int.reduceLT, Int.reduceLE, Int.reduceSub, Int.reduceNeg, eq_self, frOf, setv, ↓reduceIte, ↓binI, Opd.ev, Sx.get, put, putO, del, dels, rd, upd, splice, SV.cells?, BB, ↓PB]
    refine ⟨[(0, 0)], _, _, _, _, _, F, ?_, ⟨⟨_, rfl, ?_, ?_⟩, trivial⟩, ⟨by simp, trivial⟩, ⟨by decide, trivial⟩, by simp, ⟨fun _ => rfl, fun _ => rfl, trivial⟩, ?_⟩
    · simp only [SV.renL, SV.ren, ren_bytes, eta, List.getElem?_cons_zero, Option.getD_some] <;> rfl
    · simp only [len_bytes, xl, hX, eta, List.getElem?_cons_zero, Option.getD_some]; omega
    · exact view_take _ _ _
    simp (config := { maxSteps := 1000000 }) only [lP, ttP, ↓gsh, ↓gtS, ↓gtP, ↓gi1, tI, lI, ouC, List.range, List.range.loop, lenK, Nat.reduceAdd, SV.flatL, SV.flat, lookF, reduceCtorEq, Nat.reduceEqDiff, Nat.reduceAdd, Nat.reduceSub, Nat.reduceMul, Nat.reduceLeDiff, Nat.reduceLT, Int.reduceToNat, Int.reduceLT, Int.reduceLE, Int.reduceSub, Int.reduceNeg, eq_self, ↓reduceIte, ↓binI, ↓binS, ↓fillE, ↓evRes, evA, Opd.ev, Sx.get, put, putO, del, dels, frD, memD, pickD, kills, views, newer, rd, rm, splice, SV.cells?, SV.one, retOf, canLW, canV, canC, belowL, apH, apH1, eta, SV.ren, SV.renL, newOwn, targets, rms, Kind.isOwn, BB, ↓PB]
    exact ⟨by omega, by omega, [(0, 0), (12, 0), (10, 0), (5, 0), (6, 0), (7, 0), (8, 0), (4, 0)], by simp [hin, Nat.reduceAdd, SV.ren, EntM, compat, apartM, keysBelow, eta, idHs, rd, SV.ren, SV.renL, Nat.reduceAdd, Nat.reduceEqDiff, Nat.reduceLT, Nat.reduceLeDiff, ↓reduceIte, Kind.isOwn, exists_eq_left', ne_eq, implies_true, forall_const, forall_eq, BB]⟩
  · have c3 : ¬ (i : Int) < 16 := by omega
    have F := IH (i - 16) d (X.take 64) (show i - 16 < 16 by omega) hd xl
    rw [inK_congr (i' := i) (X' := X) 4 (fun j hj => bit_rest (h := 4) (by omega) hj) (fun j hj => prf_take (h := 4) hj)] at F
    have w1 : IntKind.i64.wrap ((i : Int) - 16) = ((i - 16 : Nat) : Int) := by rw [wrap64_eq (by omega) (by omega)]; omega
    have hbit : bitB i 4 = true := bit_high (h := 4) (by omega) hi
    rw [hbit] at hin
    simp only [if_true] at hin
    simp (config := { maxSteps := 1000000 }) only [cMg, tabMg, gs, c1, c2, c3, w1, hl, td, lX, tP, lP, SV.flatL, SV.flat, Int.reduceBEq, lookF, setv, reduceCtorEq, Nat.reduceEqDiff, Nat.reduceAdd, Nat.reduceMul, Nat.reduceLT, Int.reduceToNat, Int.reduceLT, Int.reduceLE, Int.reduceSub, Int.reduceNeg, eq_self, frOf, setv, ↓reduceIte, ↓binI, Opd.ev, Sx.get, put, putO, del, dels, rd, upd, splice, SV.cells?, BB, ↓PB]
    refine ⟨[(0, 0)], _, _, _, _, _, F, ?_, ⟨⟨_, rfl, ?_, ?_⟩, trivial⟩, ⟨by simp, trivial⟩, ⟨by decide, trivial⟩, by simp, ⟨fun _ => rfl, fun _ => rfl, trivial⟩, ?_⟩
    · simp only [SV.renL, SV.ren, ren_bytes, eta, List.getElem?_cons_zero, Option.getD_some] <;> rfl
    · simp only [len_bytes, xl, hX, eta, List.getElem?_cons_zero, Option.getD_some]; omega
    · exact view_take _ _ _
    simp (config := { maxSteps := 1000000 }) only [lP, ttP, ↓gsh, ↓gtS, ↓gtP, ↓gi2, tI, lI, ouC, List.range, List.range.loop, lenK, Nat.reduceAdd, SV.flatL, SV.flat, lookF, reduceCtorEq, Nat.reduceEqDiff, Nat.reduceAdd, Nat.reduceSub, Nat.reduceMul, Nat.reduceLeDiff, Nat.reduceLT, Int.reduceToNat, Int.reduceLT, Int.reduceLE, Int.reduceSub, Int.reduceNeg, eq_self, ↓reduceIte, ↓binI, ↓binS, ↓fillE, ↓evRes, evA, Opd.ev, Sx.get, put, putO, del, dels, frD, memD, pickD, kills, views, newer, rd, rm, splice, SV.cells?, SV.one, retOf, canLW, canV, canC, belowL, apH, apH1, eta, SV.ren, SV.renL, newOwn, targets, rms, Kind.isOwn, BB, ↓PB]
    exact ⟨by omega, by omega, [(0, 0), (12, 0), (10, 0), (5, 0), (6, 0), (7, 0), (8, 0), (4, 0)], by simp [hin, Nat.reduceAdd, SV.ren, EntM, compat, apartM, keysBelow, eta, idHs, rd, SV.ren, SV.renL, Nat.reduceAdd, Nat.reduceEqDiff, Nat.reduceLT, Nat.reduceLeDiff, ↓reduceIte, Kind.isOwn, exists_eq_left', ne_eq, implies_true, forall_const, forall_eq, BB]⟩
set_option maxHeartbeats 8000000 in
theorem f84s5 (IH : Inp 5) : Inp 6 := by
  intro i d X hi hd hX
  show Fun Tryd.prog tH2 84 [.int .i64 64, .int .i64 (i : Int), .agg (bys d), .slc 0 0 16 6 none] [(0, ⟨.view, bys X⟩)] 1
    (.tup [.slc 1 0 1 7 none, .bool true]) [(1, ⟨.own 56, ouC 3 2 6⟩), (2, ⟨.own 5, bys (inK i d X 6)⟩)] 9
  have hi : i < 64 := hi
  have hX : X.length = 96 := hX
  refine fun_any none cMg cMg_ok chk84 (show 4 ≤ 107 by decide) (by decide) ?_
  unfold sf84 og oh om oq ov
  have hl : (bys d).length = 16 := by rw [len_bytes, hd]
  have td := take16 hd
  have lX : (bys X).length = 96 := by rw [len_bytes, hX]
  have pl : (prf X 5).length = 16 := by simp [prf, hX]
  have lP : (bys (prf X 5)).length = 16 := by rw [len_bytes, pl]
  have tP : List.take 16 (List.drop 80 (bys X)) = bys (prf X 5) := by simp [prf, bys, List.map_take, List.map_drop]
  have ttP := take16 pl
  have gs : gSpl [.int .i64 64] = some (.int .i64 32) := rfl
  have c1 : ¬ (i : Int) < 0 := by omega
  have c2 : ¬ (i : Int) ≥ 64 := by omega
  have gtP := gText_eq pl
  have hin : inK i d X 6 = if bitB i 5 = true then ofM 2 [prf X 5, shS (inK i d X 5)] else ofM 2 [shS (inK i d X 5), prf X 5] := rfl
  have il : (inK i d X 5).length = 37 := inK_len (h := 6) hd hX 5 (by decide)
  have sl := shS_len (inK i d X 5)
  have gsh := gShN_eq il (by omega)
  have tI : List.take 37 (bys (inK i d X 5)) = bys (inK i d X 5) := List.take_of_length_le (by rw [len_bytes, il]; omega)
  have lI : (bys (inK i d X 5)).length = 37 := by rw [len_bytes, il]
  have gtS := gText_eq sl
  have gi1 := gIn2 sl pl
  have gi2 := gIn2 pl sl
  have lS : (bys (shS (inK i d X 5))).length = 16 := by rw [len_bytes, sl]
  have ttS := take16 sl
  have xl : (X.take 80).length = 16 * 5 := by rw [List.length_take, hX]; omega
  by_cases hb : i < 32
  · have c3 : (i : Int) < 32 := by omega
    have F := IH i d (X.take 80) hb hd xl
    rw [inK_congr (i' := i) (X' := X) 5 (fun _ _ => rfl) (fun j hj => prf_take (h := 5) hj)] at F
    have hbit : bitB i 5 = false := bit_low (h := 5) hb
    rw [hbit] at hin
    simp only [Bool.false_eq_true, if_false] at hin
    simp (config := { maxSteps := 1000000 }) only [cMg, tabMg, gs, c1, c2, c3, hl, td, lX, tP, lP, SV.flatL, SV.flat, Int.reduceBEq, lookF, setv, reduceCtorEq, Nat.reduceEqDiff, Nat.reduceAdd, Nat.reduceMul, Nat.reduceLT, Int.reduceToNat, Int.reduceLT, Int.reduceLE, Int.reduceSub, Int.reduceNeg, eq_self, frOf, setv, ↓reduceIte, ↓binI, Opd.ev, Sx.get, put, putO, del, dels, rd, upd, splice, SV.cells?, BB, ↓PB]
    refine ⟨[(0, 0)], _, _, _, _, _, F, ?_, ⟨⟨_, rfl, ?_, ?_⟩, trivial⟩, ⟨by simp, trivial⟩, ⟨by decide, trivial⟩, by simp, ⟨fun _ => rfl, fun _ => rfl, trivial⟩, ?_⟩
    · simp only [SV.renL, SV.ren, ren_bytes, eta, List.getElem?_cons_zero, Option.getD_some] <;> rfl
    · simp only [len_bytes, xl, hX, eta, List.getElem?_cons_zero, Option.getD_some]; omega
    · exact view_take _ _ _
    simp (config := { maxSteps := 1000000 }) only [lP, ttP, ↓gsh, ↓gtS, ↓gtP, ↓gi1, tI, lI, ouC, List.range, List.range.loop, lenK, Nat.reduceAdd, SV.flatL, SV.flat, lookF, reduceCtorEq, Nat.reduceEqDiff, Nat.reduceAdd, Nat.reduceSub, Nat.reduceMul, Nat.reduceLeDiff, Nat.reduceLT, Int.reduceToNat, Int.reduceLT, Int.reduceLE, Int.reduceSub, Int.reduceNeg, eq_self, ↓reduceIte, ↓binI, ↓binS, ↓fillE, ↓evRes, evA, Opd.ev, Sx.get, put, putO, del, dels, frD, memD, pickD, kills, views, newer, rd, rm, splice, SV.cells?, SV.one, retOf, canLW, canV, canC, belowL, apH, apH1, eta, SV.ren, SV.renL, newOwn, targets, rms, Kind.isOwn, BB, ↓PB]
    exact ⟨by omega, by omega, [(0, 0), (13, 0), (11, 0), (5, 0), (6, 0), (7, 0), (8, 0), (9, 0), (4, 0)], by simp [hin, Nat.reduceAdd, SV.ren, EntM, compat, apartM, keysBelow, eta, idHs, rd, SV.ren, SV.renL, Nat.reduceAdd, Nat.reduceEqDiff, Nat.reduceLT, Nat.reduceLeDiff, ↓reduceIte, Kind.isOwn, exists_eq_left', ne_eq, implies_true, forall_const, forall_eq, BB]⟩
  · have c3 : ¬ (i : Int) < 32 := by omega
    have F := IH (i - 32) d (X.take 80) (show i - 32 < 32 by omega) hd xl
    rw [inK_congr (i' := i) (X' := X) 5 (fun j hj => bit_rest (h := 5) (by omega) hj) (fun j hj => prf_take (h := 5) hj)] at F
    have w1 : IntKind.i64.wrap ((i : Int) - 32) = ((i - 32 : Nat) : Int) := by rw [wrap64_eq (by omega) (by omega)]; omega
    have hbit : bitB i 5 = true := bit_high (h := 5) (by omega) hi
    rw [hbit] at hin
    simp only [if_true] at hin
    simp (config := { maxSteps := 1000000 }) only [cMg, tabMg, gs, c1, c2, c3, w1, hl, td, lX, tP, lP, SV.flatL, SV.flat, Int.reduceBEq, lookF, setv, reduceCtorEq, Nat.reduceEqDiff, Nat.reduceAdd, Nat.reduceMul, Nat.reduceLT, Int.reduceToNat, Int.reduceLT, Int.reduceLE, Int.reduceSub, Int.reduceNeg, eq_self, frOf, setv, ↓reduceIte, ↓binI, Opd.ev, Sx.get, put, putO, del, dels, rd, upd, splice, SV.cells?, BB, ↓PB]
    refine ⟨[(0, 0)], _, _, _, _, _, F, ?_, ⟨⟨_, rfl, ?_, ?_⟩, trivial⟩, ⟨by simp, trivial⟩, ⟨by decide, trivial⟩, by simp, ⟨fun _ => rfl, fun _ => rfl, trivial⟩, ?_⟩
    · simp only [SV.renL, SV.ren, ren_bytes, eta, List.getElem?_cons_zero, Option.getD_some] <;> rfl
    · simp only [len_bytes, xl, hX, eta, List.getElem?_cons_zero, Option.getD_some]; omega
    · exact view_take _ _ _
    simp (config := { maxSteps := 1000000 }) only [lP, ttP, ↓gsh, ↓gtS, ↓gtP, ↓gi2, tI, lI, ouC, List.range, List.range.loop, lenK, Nat.reduceAdd, SV.flatL, SV.flat, lookF, reduceCtorEq, Nat.reduceEqDiff, Nat.reduceAdd, Nat.reduceSub, Nat.reduceMul, Nat.reduceLeDiff, Nat.reduceLT, Int.reduceToNat, Int.reduceLT, Int.reduceLE, Int.reduceSub, Int.reduceNeg, eq_self, ↓reduceIte, ↓binI, ↓binS, ↓fillE, ↓evRes, evA, Opd.ev, Sx.get, put, putO, del, dels, frD, memD, pickD, kills, views, newer, rd, rm, splice, SV.cells?, SV.one, retOf, canLW, canV, canC, belowL, apH, apH1, eta, SV.ren, SV.renL, newOwn, targets, rms, Kind.isOwn, BB, ↓PB]
    exact ⟨by omega, by omega, [(0, 0), (13, 0), (11, 0), (5, 0), (6, 0), (7, 0), (8, 0), (9, 0), (4, 0)], by simp [hin, Nat.reduceAdd, SV.ren, EntM, compat, apartM, keysBelow, eta, idHs, rd, SV.ren, SV.renL, Nat.reduceAdd, Nat.reduceEqDiff, Nat.reduceLT, Nat.reduceLeDiff, ↓reduceIte, Kind.isOwn, exists_eq_left', ne_eq, implies_true, forall_const, forall_eq, BB]⟩
end Go.Proofs.YtkfbkooobfepeaaDoor

/- Merkle trees: the reference's check of a proof. -/
namespace Go.Proofs.YtkfbkooobfepeaaDoor
open Go Go.Sx Sf
set_option maxRecDepth 100000
set_option linter.unusedVariables false
theorem inp : ∀ h, h ≤ 6 → Inp h
  | 0, _ => f84e
  | 1, _ => f84s0 (inp 0 (by decide))
  | 2, _ => f84s1 (inp 1 (by decide))
  | 3, _ => f84s2 (inp 2 (by decide))
  | 4, _ => f84s3 (inp 3 (by decide))
  | 5, _ => f84s4 (inp 4 (by decide))
  | 6, _ => f84s5 (inp 5 (by decide))
  | h + 7, hh => absurd hh (by omega)
def tabVh : List (FuncId × GS) := [(55, gShN)]
theorem tabVh_ok : ∀ x ∈ tabVh, FunS Tryd.prog tH2 x.1 x.2 := by
  intro x hx
  simp only [tabVh, List.mem_cons, List.not_mem_nil, or_false] at hx
  subst hx
  exact gSh55
def cVh : CallT := callAnd 84 (callT Tryd.prog tH2) (callS tabVh cF)
theorem cVh_ok : ∀ f a m n K, cVh f a m n K → callT Tryd.prog tH2 f a m n K := callAnd_ok (callS_ok tabVh_ok cF_ok)
set_option maxHeartbeats 8000000 in
theorem f68z (p d : List UInt8) (hp : p.length = 16) (hd : d.length = 16) :
    Fun Tryd.prog tH2 68 [.agg (bys p), .int .i64 (P2 0), .int .i64 0, .agg (bys d), .val (.slice none 0 0)] [] 0 (.bool (shS (ofM 1 [d]) == p)) [] 0 := by
  show Fun Tryd.prog tH2 68 [.agg (bys p), .int .i64 1, .int .i64 0, .agg (bys d), .val (.slice none 0 0)] [] 0 (.bool (shS (ofM 1 [d]) == p)) [] 0
  refine fun_any none cVh cVh_ok chk68 (show 5 ≤ 33 by decide) (by decide) ?_
  unfold sf68 oh om oq
  have hl : (bys d).length = 16 := by rw [len_bytes, hd]
  have lp : (bys p).length = 16 := by rw [len_bytes, hp]
  have tp := take16 hp
  have td := take16 hd
  simp (config := { maxSteps := 1000000 }) only [cVh, tabVh, hl, td, reduceCtorEq, Nat.reduceEqDiff, Nat.reduceAdd, eq_self, frOf, ↓reduceIte, Opd.ev, Sx.get, put, putO, del, dels, rd, SV.cells?, BB, ↓PB]
  have F := f84n d hd
  refine ⟨[], _, _, _, _, _, F, ?_, trivial, trivial, trivial, by simp, ⟨fun _ => rfl, fun _ => rfl, trivial⟩, ?_⟩
  · simp only [SV.renL, SV.ren, ren_bytes]
  have il := leaf_len hd
  have gs := gShN_eq il (by omega)
  have sl := shS_len (ofM 1 [d])
  have lS : (bys (shS (ofM 1 [d]))).length = 16 := by rw [len_bytes, sl]
  have tI : List.take 19 (bys (ofM 1 [d])) = bys (ofM 1 [d]) := List.take_of_length_le (by rw [len_bytes, il]; omega)
  have lI : (bys (ofM 1 [d])).length = 19 := by rw [len_bytes, il]
  have eq := eqPub sl hp
  simp (config := { maxSteps := 1000000 }) only [Nat.reduceEqDiff, Nat.reduceAdd, eq_self, ↓reduceIte, Opd.ev, Sx.get, put, putO, del, dels, eta, SV.ren, SV.renL, newOwn, targets, rms, Kind.isOwn, BB, ↓PB]
  iterate 2 (rw [ev_n]; simp (config := { maxSteps := 1000000 }) only [Nat.reduceEqDiff, eq_self, ↓reduceIte, Opd.ev, Sx.get, put, putO, del, dels, frD, memD, pickD, views, newer, BB, ↓PB])
  iterate 8 (rw [ev_g]; simp (config := { maxSteps := 1000000 }) only [lp, tp, lI, tI, ↓gs, lookF, reduceCtorEq, Nat.reduceEqDiff, Nat.reduceSub, Nat.reduceLT, Int.reduceToNat, Int.reduceLT, Int.reduceLE, Int.reduceSub, Int.reduceNeg, eq_self, ↓reduceIte, ↓binI, Opd.ev, Sx.get, put, putO, del, dels, frD, memD, pickD, views, newer, rd, canLW, canV, canC, belowL, apH, apH1, SV.ren, newOwn, targets, rms, Kind.isOwn, BB, ↓PB])
  rw [ev_0]
  simp (config := { maxSteps := 1000000 }) only [eq, setv, reduceCtorEq, Nat.reduceEqDiff, eq_self, setv, ↓reduceIte, ↓evRes, Opd.ev, Sx.get, put, putO, del, dels, frD, memD, kills, retOf, SV.ren, BB, ↓PB]
  exact ⟨[], by simp [EntM, compat, apartM, keysBelow, idHs, List.length_nil, List.take_nil, and_self]⟩
set_option maxHeartbeats 8000000 in
theorem f68 (h i : Nat) (p d X : List UInt8) (hp : p.length = 16) (hh : h ≤ 6) (h0 : 0 < h) (hi : i < 2 ^ h) (hd : d.length = 16) (hX : X.length = 16 * h) :
    Fun Tryd.prog tH2 68 [.agg (bys p), .int .i64 (P2 h), .int .i64 (i : Int), .agg (bys d), .slc 0 0 16 h none] [(0, ⟨.view, bys X⟩)] 1 (.bool (shS (inK i d X h) == p)) [] 1 := by
  refine fun_any none cVh cVh_ok chk68 (show 5 ≤ 33 by decide) (by decide) ?_
  unfold sf68 oh om oq
  have hl : (bys d).length = 16 := by rw [len_bytes, hd]
  have lp : (bys p).length = 16 := by rw [len_bytes, hp]
  have tp := take16 hp
  have td := take16 hd
  simp (config := { maxSteps := 1000000 }) only [cVh, tabVh, hl, td, reduceCtorEq, Nat.reduceEqDiff, Nat.reduceAdd, eq_self, frOf, ↓reduceIte, Opd.ev, Sx.get, put, putO, del, dels, rd, SV.cells?, BB, ↓PB]
  have F := inp h hh i d X hi hd hX
  refine ⟨[(0, 0)], _, _, _, _, _, F, ?_, ⟨⟨_, rfl, ?_, ?_⟩, trivial⟩, ⟨by simp, trivial⟩, ⟨by decide, trivial⟩, by simp, ⟨fun _ => rfl, fun _ => rfl, trivial⟩, ?_⟩
  · simp only [SV.renL, SV.ren, ren_bytes, eta, List.getElem?_cons_zero, Option.getD_some]
  · exact Nat.le_of_eq (Nat.zero_add _)
  · simp only [eta, BB]
  have il := inK_len (i := i) hd hX h (Nat.le_refl _)
  have lk : lenK h = 37 := by obtain ⟨k, rfl⟩ : ∃ k, h = k + 1 := ⟨h - 1, by omega⟩; rfl
  rw [lk] at il
  have gs := gShN_eq il (by omega)
  have sl := shS_len (inK i d X h)
  have tI : List.take 37 (bys (inK i d X h)) = bys (inK i d X h) := List.take_of_length_le (by rw [len_bytes, il]; omega)
  have lI : (bys (inK i d X h)).length = 37 := by rw [len_bytes, il]
  have lS : (bys (shS (inK i d X h))).length = 16 := by rw [len_bytes, sl]
  have eq := eqPub sl hp
  have rO : SV.renL (eta [(0, 0)] 3) (ouC 3 2 h) = ouC 5 4 h := ren_ouC (fun j _ => by unfold eta; rw [show 3 + j = (j + 2) + 1 by omega]; simp; omega) rfl
  have gO := ouC_last 5 4 h
  rw [lk] at gO
  have lO := ouC_len 5 4 h
  have hS : IntKind.i64.wrap (((h + 1 : Nat) : Int) - 1) = (h : Int) := by rw [wrap64_eq (by omega) (by omega)]; omega
  have hle : (0 : Int) ≤ (h : Int) := by omega
  generalize hI : inK i d X h = I at *
  generalize hOe : ouC 5 4 h = O at *
  simp (config := { maxSteps := 1000000 }) only [rO, Nat.reduceEqDiff, Nat.reduceAdd, Nat.reduceSub, eq_self, ↓reduceIte, Opd.ev, Sx.get, put, putO, del, dels, eta, SV.ren, SV.renL, newOwn, targets, rms, Kind.isOwn, BB, ↓PB]
  iterate 2 (rw [ev_n]; simp (config := { maxSteps := 1000000 }) only [Nat.reduceEqDiff, eq_self, ↓reduceIte, Opd.ev, Sx.get, put, putO, del, dels, frD, memD, pickD, views, newer, BB, ↓PB])
  iterate 8 (rw [ev_g]; simp (config := { maxSteps := 1000000 }) only [lp, tp, lI, tI, ↓gs, gO, lO, hS, hle, lookF, Nat.reduceEqDiff, Nat.reduceSub, eq_self, ↓reduceIte, ↓binI, Opd.ev, Sx.get, put, putO, del, dels, frD, memD, pickD, views, newer, rd, canLW, canV, canC, belowL, apH, apH1, SV.ren, newOwn, targets, rms, Kind.isOwn, BB, ↓PB])
  rw [ev_0]
  simp (config := { maxSteps := 1000000 }) only [eq, setv, reduceCtorEq, Nat.reduceEqDiff, eq_self, setv, ↓reduceIte, ↓evRes, Opd.ev, Sx.get, put, putO, del, dels, frD, memD, kills, retOf, SV.ren, BB, ↓PB]
  exact ⟨by omega, by omega, by omega, [(0, 0)], by simp [EntM, compat, apartM, keysBelow, idHs, BB]⟩
end Go.Proofs.YtkfbkooobfepeaaDoor

/- The check of a signature of a tree: the height, the reader, the proof. -/
namespace Go.Proofs.YtkfbkooobfepeaaDoor
open Go Go.Sx Sf
set_option maxRecDepth 100000
set_option linter.unusedVariables false
variable {tS : List (Nat × List SV)}
def gHt : GS
  | [.int .i64 h], [] => some (.bool (decide (0 ≤ h) && decide (h ≤ 6)), [], 0)
  | _, _ => none
theorem f57 (h : Int) : Fun Tryd.prog tS 57 [.int .i64 h] [] 0 (.bool (decide (0 ≤ h) && decide (h ≤ 6))) [] 0 := by
  refine fun_pure none cF cF_ok chk57 (show 1 ≤ 9 by decide) (fun η => rfl) ?_
  unfold sf57 og om oq
  by_cases h1 : 0 ≤ h
  · have e1 : h ≥ 0 := h1
    simp (config := { maxSteps := 1000000 }) only [h1, setv, reduceCtorEq, Nat.reduceEqDiff, eq_self, frOf, setv, ↓reduceIte, ↓binI, ↓evRes, Opd.ev, Sx.get, put, putO, del, dels, retOf, BB, ↓PB]
  · have e1 : ¬ h ≥ 0 := h1
    simp (config := { maxSteps := 1000000 }) only [h1, undef, setv, reduceCtorEq, Nat.reduceEqDiff, eq_self, frOf, setv, ↓reduceIte, ↓binI, ↓evRes, Opd.ev, Sx.get, put, putO, del, dels, retOf, BB, ↓PB]
    rfl
theorem gHt_ok : FunS Tryd.prog tS 57 gHt := by
  intro a0 m0 r m1 n1 h
  unfold gHt at h
  split at h
  · cases h
    exact ⟨f57 _, by simp [freshB]⟩
  · cases h
theorem f58 (sig : List UInt8) : Fun Tryd.prog tS 58 [.str sig] [] 0 (.tup [.fn 75 [] [.ptr 0 0, .ptr 1 0], .fn 76 [] [.ptr 1 0, .ptr 0 0]])
    [(0, ⟨.own 27, [.int .i64 0]⟩), (1, ⟨.own 56, [.slc 2 0 1 sig.length none]⟩), (2, ⟨.own 5, bys sig⟩)] 3 := by
  refine fun_any none cF cF_ok chk58 (show 1 ≤ 12 by decide) (by decide) ?_
  unfold sf58 om oq ov
  have e1 : sig.map SV.byte = bys sig := rfl
  simp (config := { maxSteps := 1000000 }) only [e1, reduceCtorEq, Nat.reduceEqDiff, Nat.reduceAdd, eq_self, frOf, ↓reduceIte, ↓evRes, Opd.ev, Sx.get, put, putO, del, dels, rd, upd, splice, SV.cells?, SV.one, retOf, eta, SV.ren, SV.renL, BB, ↓PB]
  exact ⟨[(2, 0), (1, 0), (0, 0)], by simp [SV.ren, EntM, compat, apartM, keysBelow, eta, idHs, rd, SV.ren, SV.renL, Nat.reduceAdd, Nat.reduceLT, Nat.reduceLeDiff, ↓reduceIte, Kind.isOwn, exists_eq_left', ne_eq, implies_true, forall_const, reduceCtorEq, forall_eq_or_imp, forall_eq, BB]⟩
theorem f76 (e : Int) (l : Nat) : Fun Tryd.prog tS 76 [.ptr 0 0, .ptr 1 0] [(0, ⟨.own 56, [.slc 2 0 1 l none]⟩), (1, ⟨.own 27, [.int .i64 e]⟩)] 3 (.tup [.slc 2 0 1 l none, .int .i64 e])
    [(0, ⟨.own 56, [.slc 2 0 1 l none]⟩), (1, ⟨.own 27, [.int .i64 e]⟩)] 3 := by
  refine fun_any none cF cF_ok chk76 (show 2 ≤ 6 by decide) (by decide) ?_
  unfold sf76 oh om
  simp (config := { maxSteps := 1000000 }) only [reduceCtorEq, Nat.reduceEqDiff, eq_self, frOf, ↓reduceIte, ↓evRes, Opd.ev, Sx.get, put, putO, del, dels, rd, retOf, eta, SV.ren, SV.renL, BB, ↓PB]
  exact ⟨[(0, 0), (1, 0), (2, 0)], by simp [SV.ren, EntM, compat, apartM, keysBelow, eta, idHs, rd, SV.ren, SV.renL, Nat.reduceAdd, Nat.reduceLT, Nat.reduceLeDiff, ↓reduceIte, Kind.isOwn, exists_eq_left', ne_eq, implies_true, forall_const, forall_eq, BB]⟩
theorem f75a (r : List UInt8) (u : Nat) (hu : u ≤ r.length) : Fun Tryd.prog tS 75 [.int .i64 (u : Int), .int .i64 0, .ptr 0 0, .ptr 1 0]
    [(0, ⟨.own 27, [.int .i64 0]⟩), (1, ⟨.own 56, [.slc 2 0 1 r.length none]⟩), (2, ⟨.view, bys r⟩)] 3 (.tup [])
    [(0, ⟨.own 27, [.int .i64 0]⟩), (1, ⟨.own 56, [.slc 2 u 1 (r.length - u) none]⟩)] 3 := by
  refine fun_any none cF cF_ok chk75 (show 4 ≤ 14 by decide) (by decide) ?_
  unfold sf75 om oq ov
  have h1 : (0 : Int) ≤ (u : Int) := by omega
  have h2 : (u : Int) ≤ (r.length : Int) := by omega
  simp (config := { maxSteps := 1000000 }) only [h1, h2, reduceCtorEq, Nat.reduceEqDiff, Nat.reduceAdd, eq_self, frOf, ↓reduceIte, ↓binI, ↓evRes, Opd.ev, Sx.get, put, putO, del, dels, rd, upd, splice, SV.cells?, SV.one, retOf, SV.ren, SV.renL, BB, ↓PB]
  exact ⟨Int.le_refl _, [(0, 0), (1, 0), (2, 0)], by simp [SV.ren, EntM, compat, apartM, keysBelow, eta, idHs, rd, SV.ren, SV.renL, Nat.reduceAdd, Nat.reduceLT, Nat.reduceLeDiff, ↓reduceIte, Kind.isOwn, exists_eq_left', ne_eq, implies_true, forall_const, forall_eq, BB]⟩
theorem f75b (r : List UInt8) (u e : Int) (he : e ≠ 0) : Fun Tryd.prog tS 75 [.int .i64 u, .int .i64 e, .ptr 0 0, .ptr 1 0]
    [(0, ⟨.own 27, [.int .i64 0]⟩), (1, ⟨.own 56, [.slc 2 0 1 r.length none]⟩), (2, ⟨.view, bys r⟩)] 3 (.tup [])
    [(0, ⟨.own 27, [.int .i64 e]⟩), (1, ⟨.own 56, [.slc 2 0 1 r.length none]⟩)] 3 := by
  refine fun_any none cF cF_ok chk75 (show 4 ≤ 14 by decide) (by decide) ?_
  unfold sf75 om oq ov
  have e1 : (e == 0) = false := by simpa using he
  simp (config := { maxSteps := 1000000 }) only [e1, reduceCtorEq, Nat.reduceEqDiff, Nat.reduceAdd, eq_self, frOf, ↓reduceIte, ↓binI, ↓evRes, Opd.ev, Sx.get, put, putO, del, dels, rd, upd, splice, SV.cells?, SV.one, retOf, SV.ren, SV.renL, BB, ↓PB]
  exact ⟨[(0, 0), (1, 0), (2, 0)], by simp [SV.ren, EntM, compat, apartM, keysBelow, eta, idHs, rd, SV.ren, SV.renL, Nat.reduceAdd, Nat.reduceLT, Nat.reduceLeDiff, ↓reduceIte, Kind.isOwn, exists_eq_left', ne_eq, implies_true, forall_const, forall_eq, BB]⟩
theorem f75c (r : List UInt8) (u e e0 : Int) (he : e0 ≠ 0) : Fun Tryd.prog tS 75 [.int .i64 u, .int .i64 e, .ptr 0 0, .ptr 1 0]
    [(0, ⟨.own 27, [.int .i64 e0]⟩), (1, ⟨.own 56, [.slc 2 0 1 r.length none]⟩), (2, ⟨.view, bys r⟩)] 3 (.tup [])
    [(0, ⟨.own 27, [.int .i64 e0]⟩), (1, ⟨.own 56, [.slc 2 0 1 r.length none]⟩)] 3 := by
  refine fun_any none cF cF_ok chk75 (show 4 ≤ 14 by decide) (by decide) ?_
  unfold sf75 om oq ov
  have e1 : (e0 == 0) = false := by simpa using he
  simp (config := { maxSteps := 1000000 }) only [e1, reduceCtorEq, Nat.reduceEqDiff, Nat.reduceAdd, eq_self, frOf, ↓reduceIte, ↓binI, ↓evRes, Opd.ev, Sx.get, put, putO, del, dels, rd, retOf, SV.ren, SV.renL, BB, ↓PB]
  exact ⟨[(0, 0), (1, 0), (2, 0)], by simp [SV.ren, EntM, compat, apartM, keysBelow, eta, idHs, rd, SV.ren, SV.renL, Nat.reduceAdd, Nat.reduceLT, Nat.reduceLeDiff, ↓reduceIte, Kind.isOwn, exists_eq_left', ne_eq, implies_true, forall_const, forall_eq, BB]⟩
theorem view_at (b : List UInt8) (o : Nat) (η : Nat → Nat × Nat) : SV.renL η (bys (b.drop o)) = List.take (bys (b.drop o)).length (List.drop o (bys b)) := by
  rw [ren_bytes, len_bytes, List.length_drop]
  simp only [bys, List.map_drop]
  rw [List.take_of_length_le (by simp)]
theorem call76 {m : Mem} {n : Nat} {K : Kt} {e : Int} {o l : Nat} (hd : rd m 2 = some ⟨.own 56, [.slc 3 o 1 l none]⟩) (he : rd m 1 = some ⟨.own 27, [.int .i64 e]⟩) (hn : 4 ≤ n)
    (hK : K (.tup [.slc 3 o 1 l none, .int .i64 e]) ([(2, ⟨.own 56, [.slc 3 o 1 l none]⟩), (1, ⟨.own 27, [.int .i64 e]⟩)] ++ rms m [2, 1]) n) :
    callT Tryd.prog tH2 76 [.ptr 2 0, .ptr 1 0] m n K := by
  refine ⟨[(2, 0), (1, 0), (3, o)], _, _, _, _, 3, f76 e l, rfl, ⟨⟨_, hd, rfl, rfl, ?_⟩, ⟨_, he, rfl, rfl, rfl⟩, trivial⟩, ⟨by intro x hx; simp at hx; subst hx; intro _; simp [eta], ⟨by simp, trivial⟩⟩, ⟨by simp, by simp, trivial⟩,
    by intro x hx; simp at hx; rcases hx with rfl | rfl | rfl <;> (simp only; omega), ⟨fun _ => rfl, fun _ => rfl, trivial⟩, ?_⟩
  · simp only [SV.renL, SV.ren, eta, BB]
  · simpa only [SV.renL, SV.ren, eta, newOwn, Kind.isOwn, targets, Nat.sub_self, Nat.reduceAdd, BB] using hK
theorem call75 {m : Mem} {n : Nat} {K : Kt} {b : List UInt8} {u e e0 : Int} {o : Nat} {D : SV} {e1 : Int} (hd : rd m 2 = some ⟨.own 56, [.slc 3 o 1 (b.drop o).length none]⟩) (he : rd m 1 = some ⟨.own 27, [.int .i64 e0]⟩)
    (h3 : rd m 3 = some ⟨.own 5, bys b⟩) (hn : 4 ≤ n) (ho : o ≤ b.length)
    (hc : (e0 = 0 ∧ e = 0 ∧ ∃ w : Nat, u = (w : Int) ∧ w ≤ (b.drop o).length ∧ D = .slc 3 (o + w) 1 (b.drop (o + w)).length none ∧ e1 = 0) ∨
      (D = .slc 3 o 1 (b.drop o).length none ∧ ((e0 = 0 ∧ e ≠ 0 ∧ e1 = e) ∨ (e0 ≠ 0 ∧ e1 = e0))))
    (hK : K (.tup []) ([(1, ⟨.own 27, [.int .i64 e1]⟩), (2, ⟨.own 56, [D]⟩)] ++ rms m [1, 2]) n) :
    callT Tryd.prog tH2 75 [.int .i64 u, .int .i64 e, .ptr 1 0, .ptr 2 0] m n K := by
  have hcomp : compat (eta [(1, 0), (2, 0), (3, o)] n) m [(0, ⟨.own 27, [.int .i64 e0]⟩), (1, ⟨.own 56, [.slc 2 0 1 (b.drop o).length none]⟩), (2, ⟨.view, bys (b.drop o)⟩)] := by
    refine ⟨⟨_, he, rfl, rfl, rfl⟩, ⟨_, hd, rfl, rfl, ?_⟩, ⟨_, h3, ?_, view_at b o _⟩, trivial⟩
    · simp only [SV.renL, SV.ren, eta, BB]
    · simp only [List.length_drop, eta, BB]; omega
  have hap : apartM (eta [(1, 0), (2, 0), (3, o)] n) [(0, ⟨.own 27, [.int .i64 e0]⟩), (1, ⟨.own 56, [.slc 2 0 1 (b.drop o).length none]⟩), (2, ⟨.view, bys (b.drop o)⟩)] :=
    ⟨by intro x hx; simp at hx; rcases hx with rfl | rfl <;> (intro _; simp [eta]), ⟨by intro x hx; simp at hx; subst hx; intro _; simp [eta], ⟨by simp, trivial⟩⟩⟩
  have hbe : ∀ h ∈ [(1, 0), (2, 0), (3, o)], h.1 < n := by intro x hx; simp at hx; rcases hx with rfl | rfl | rfl <;> (simp only; omega)
  rcases hc with ⟨rfl, rfl, w, rfl, hw, rfl, rfl⟩ | ⟨rfl, ⟨rfl, h1, rfl⟩ | ⟨h1, rfl⟩⟩
  · refine ⟨[(1, 0), (2, 0), (3, o)], _, _, _, _, 3, f75a (b.drop o) w hw, rfl, hcomp, hap, ⟨by simp, by simp, by simp, trivial⟩, hbe, ⟨fun _ => rfl, fun _ => rfl, trivial⟩, ?_⟩
    rw [show (b.drop (o + w)).length = (b.drop o).length - w by simp only [List.length_drop]; omega] at hK
    simpa only [SV.renL, SV.ren, eta, newOwn, Kind.isOwn, targets, Nat.sub_self, Nat.reduceAdd, BB] using hK
  · refine ⟨[(1, 0), (2, 0), (3, o)], _, _, _, _, 3, f75b (b.drop o) u e1 h1, rfl, hcomp, hap, ⟨by simp, by simp, by simp, trivial⟩, hbe, ⟨fun _ => rfl, fun _ => rfl, trivial⟩, ?_⟩
    simpa only [SV.renL, SV.ren, eta, newOwn, Kind.isOwn, targets, Nat.sub_self, Nat.reduceAdd, BB] using hK
  · refine ⟨[(1, 0), (2, 0), (3, o)], _, _, _, _, 3, f75c (b.drop o) u e e1 h1, rfl, hcomp, hap, ⟨by simp, by simp, by simp, trivial⟩, hbe, ⟨fun _ => rfl, fun _ => rfl, trivial⟩, ?_⟩
    simpa only [SV.renL, SV.ren, eta, newOwn, Kind.isOwn, targets, Nat.sub_self, Nat.reduceAdd, BB] using hK
end Go.Proofs.YtkfbkooobfepeaaDoor

/- Package wire: the reading of an integer. -/
namespace Go.Proofs.YtkfbkooobfepeaaDoor
open Go Go.Sx Sf
set_option maxRecDepth 100000
set_option linter.unusedVariables false
variable {tS : List (Nat × List SV)}
def kOf (h : Nat) : Nat := if h < 128 then 127 - h else h - 128
def flU (h : Nat) (c : UInt8) : UInt8 := if h < 128 then UInt8.ofNat (255 - c.toNat) else c
def valB (l : List UInt8) : Nat := l.foldl (fun a c => a * 256 + c.toNat) 0
def decS (b : List UInt8) : Int × Nat × Int := match b with
  | [] => (0, 0, 5)
  | c :: r => if kOf c.toNat > 8 then (0, 0, 6) else if r.length < kOf c.toNat then (0, 0, 5) else
    if ((r.take (kOf c.toNat)).map (flU c.toNat)).head? = some 0 then (0, 0, 6) else
    if valB ((r.take (kOf c.toNat)).map (flU c.toNat)) ≥ 9223372036854775808 then (0, 0, 6) else
    ((if c.toNat < 128 then -1 - (valB ((r.take (kOf c.toNat)).map (flU c.toNat)) : Int) else (valB ((r.take (kOf c.toNat)).map (flU c.toNat)) : Int)), kOf c.toNat + 1, 0)
def tup3 (x : Int × Nat × Int) : SV := .tup [.int .i64 x.1, .int .i64 (x.2.1 : Int), .int .i64 x.2.2]

theorem valB_snoc (l : List UInt8) (c : UInt8) : valB (l ++ [c]) = valB l * 256 + c.toNat := by simp [valB]
theorem fold_lt : ∀ (l : List UInt8) (a : Nat), l.foldl (fun a c => a * 256 + c.toNat) a < (a + 1) * 256 ^ l.length
  | [], a => by simp
  | c :: l, a => by
    have := fold_lt l (a * 256 + c.toNat)
    have hc := c.toNat_lt
    simp only [List.foldl_cons, List.length_cons, Nat.pow_succ]
    have h1 : (a * 256 + c.toNat + 1) * 256 ^ l.length ≤ (a + 1) * 256 * 256 ^ l.length := Nat.mul_le_mul_right _ (by omega)
    have h2 : (a + 1) * 256 * 256 ^ l.length = (a + 1) * (256 ^ l.length * 256) := by rw [Nat.mul_assoc, Nat.mul_comm 256]
    omega
theorem valB_lt (l : List UInt8) : valB l < 256 ^ l.length := by have := fold_lt l 0; unfold valB; omega
theorem or_byte {m c : Nat} (hm : m < 72057594037927936) (hc : c < 256) : bitop .or .u64 (IntKind.u64.wrap ((m : Int) * 2 ^ (min 8 IntKind.u64.bits))) (IntKind.u64.wrap (c : Int)) = ((m * 256 + c : Nat) : Int) := by
  have e0 : min 8 IntKind.u64.bits = 8 := by decide
  rw [e0]
  have e1 : IntKind.u64.wrap ((m : Int) * 2 ^ 8) = ((m * 256 : Nat) : Int) := by rw [wrapU64]; omega
  have e2 : IntKind.u64.wrap (c : Int) = (c : Int) := by rw [wrapU64]; omega
  rw [e1, e2]
  unfold bitop
  simp only
  show IntKind.u64.wrap ((BitVec.ofInt 64 ((m * 256 : Nat) : Int) ||| BitVec.ofInt 64 (c : Int)).toNat : Int) = _
  rw [BitVec.toNat_or, BitVec.ofInt_natCast, BitVec.ofInt_natCast, BitVec.toNat_ofNat, BitVec.toNat_ofNat, Nat.mod_eq_of_lt (by omega), Nat.mod_eq_of_lt (by omega)]
  have : m * 256 ||| c = m * 256 + c := by
    have := Nat.shiftLeft_add_eq_or_of_lt (b := c) (i := 8) (by omega) m
    rw [Nat.shiftLeft_eq] at this
    exact this.symm
  rw [this, wrapU64]; omega
theorem kOf_le {h : Nat} (hh : h < 256) : kOf h < 128 := by unfold kOf; split <;> omega
theorem flU_val {h : Nat} {c : UInt8} : ((flU h c).toNat : Int) = bitop .xor .u8 (c.toNat : Int) (if h < 128 then 255 else 0) := by
  have hc := c.toNat_lt
  unfold flU
  by_cases hh : h < 128
  · rw [if_pos hh, if_pos hh, xor8_255 _ (by omega), UInt8.toNat_ofNat']; omega
  · rw [if_neg hh, if_neg hh, xor8_0 _ (by omega)]
def flI (h : Nat) : Int := if h < 128 then 255 else 0
set_option maxHeartbeats 8000000 in
theorem f59 (b : List UInt8) (hb : b.length ≤ 2 ^ 62) (cap : Option Nat) (hcap : CapOk cap b.length) :
    Fun Tryd.prog tS 59 [.slc 0 0 1 b.length cap] [(0, ⟨.view, bys b⟩)] 1 (tup3 (decS b)) [] 1 := by
  refine fun_any none cF cF_ok chk59 (show 1 ≤ 71 by decide) (by decide) ?_
  unfold sf59 og om oq tup3
  cases b with
  | nil =>
    have e0 : bys ([] : List UInt8) = [] := rfl
    simp (config := { maxSteps := 1000000 }) only [reduceCtorEq, Nat.reduceEqDiff, eq_self, frOf, ↓reduceIte, ↓binI, ↓evRes, Opd.ev, Sx.get, put, putO, del, dels, retOf, SV.ren, SV.renL, BB, ↓PB]
    exact ⟨[(0, 0)], ⟨rfl, by simp [compat, apartM, keysBelow, idHs, BB]⟩, rfl, rfl, rfl⟩
  | cons c r =>
    have hc := c.toNat_lt
    have g0 : (bys (c :: r))[0]? = some (.int .u8 (c.toNat : Int)) := get_bysI rfl
    have hne : ((c :: r).length : Int) ≠ 0 := by simp; omega
    have hl : (c :: r).length = r.length + 1 := rfl
    have hk := kOf_le hc
    have hkx : IntKind.i64.wrap (IntKind.i64.wrap (bitop .xor .u8 (c.toNat : Int) (flI c.toNat)) - 128) = (kOf c.toNat : Int) := by
      unfold flI kOf
      by_cases hh : c.toNat < 128
      · rw [if_pos hh, if_pos hh, xor8_255 _ (by omega), wrap64_eq (x := 255 - _) (by omega) (by omega), wrap64_eq (by omega) (by omega)]; omega
      · rw [if_neg hh, if_neg hh, xor8_0 _ (by omega), wrap64_eq (x := (c.toNat : Int)) (by omega) (by omega), wrap64_eq (by omega) (by omega)]; omega
    have key : (((c.toNat : Int) < 128) ∧ flI c.toNat = 255) ∨ (¬ ((c.toNat : Int) < 128) ∧ flI c.toNat = 0) := by
      unfold flI
      by_cases hh : c.toNat < 128
      · left; exact ⟨by omega, if_pos hh⟩
      · right; exact ⟨by omega, if_neg hh⟩
    have hlen0 : ((r.length + 1 : Nat) : Int) ≠ 0 := by omega
    have hb0 : (((r.length + 1 : Nat) : Int) == 0) = false := by simpa using hlen0
    have hl1 : (0 : Int) < ((r.length + 1 : Nat) : Int) := by omega
    have hbl := len_bytes (c :: r)
    rw [hl] at hbl
    rcases key with ⟨k1, k2⟩ | ⟨k1, k2⟩
    all_goals
      rw [k2] at hkx
      by_cases h8 : kOf c.toNat > 8
      · have h8' : (kOf c.toNat : Int) > 8 := by omega
        have hd : decS (c :: r) = (0, 0, 6) := by simp only [decS, h8, if_true]
        simp (config := { maxSteps := 1000000 }) only [hl, hb0, hl1, hbl, g0, k1, hkx, h8', hd, Nat.zero_lt_succ, reduceCtorEq, Nat.reduceEqDiff, Int.reduceToNat, Int.reduceLE, eq_self, frOf, ↓reduceIte, ↓binI, ↓evRes, Opd.ev, Sx.get, put, putO, del, dels, rd, retOf, SV.ren, SV.renL, BB, ↓PB]
        exact ⟨[(0, 0)], rfl, by simp [compat, apartM, keysBelow, idHs, BB]⟩
      have h8' : ¬ (kOf c.toNat : Int) > 8 := by omega
      by_cases hr : r.length < kOf c.toNat
      · have hr' : ((r.length + 1 : Nat) : Int) ≤ (kOf c.toNat : Int) := by omega
        have hd : decS (c :: r) = (0, 0, 5) := by simp only [decS, h8, hr, if_true, if_false]
        simp (config := { maxSteps := 1000000 }) only [hl, hb0, hl1, hbl, g0, k1, hkx, h8', hr', hd, Nat.zero_lt_succ, reduceCtorEq, Nat.reduceEqDiff, Int.reduceToNat, Int.reduceLE, eq_self, frOf, ↓reduceIte, ↓binI, ↓evRes, Opd.ev, Sx.get, put, putO, del, dels, rd, retOf, SV.ren, SV.renL, BB, ↓PB]
        exact ⟨[(0, 0)], rfl, by simp [compat, apartM, keysBelow, idHs, BB]⟩
      have hr' : ¬ ((r.length + 1 : Nat) : Int) ≤ (kOf c.toNat : Int) := by omega
      have hdec : decS (c :: r) = if ((r.take (kOf c.toNat)).map (flU c.toNat)).head? = some 0 then (0, 0, 6) else
          if valB ((r.take (kOf c.toNat)).map (flU c.toNat)) ≥ 9223372036854775808 then (0, 0, 6) else
          ((if c.toNat < 128 then -1 - (valB ((r.take (kOf c.toNat)).map (flU c.toNat)) : Int) else (valB ((r.take (kOf c.toNat)).map (flU c.toNat)) : Int)), kOf c.toNat + 1, 0) := by
        simp only [decS, h8, hr, if_false]
      have hfl : ∀ y : UInt8, ((flU c.toNat y).toNat : Int) = bitop .xor .u8 (y.toNat : Int) (flI c.toNat) := fun y => flU_val
      rw [k2] at hfl
      generalize hK : kOf c.toNat = K at *
      generalize hD : (r.take K).map (flU c.toNat) = D at *
      have hDl : D.length = K := by rw [← hD]; simp; omega
      by_cases hz : D.head? = some 0
      · have hd : decS (c :: r) = (0, 0, 6) := by rw [hdec, if_pos hz]
        obtain ⟨y, hy, hy0⟩ : ∃ y, r[0]? = some y ∧ flU c.toNat y = 0 := by
          rw [← hD] at hz
          cases r with
          | nil => simp at hz
          | cons y r' =>
            cases K with
            | zero => simp at hz
            | succ K => simp at hz; exact ⟨y, rfl, hz⟩
        have hK0 : (K : Int) > 0 := by
          cases K with
          | zero => simp at hDl; rw [hDl] at hz; simp at hz
          | succ K => omega
        have g1 : (bys (c :: r))[1]? = some (.int .u8 (y.toNat : Int)) := get_bysI (by simpa using hy)
        have h0 := hfl y
        rw [hy0] at h0
        have h0 : bitop .xor .u8 (y.toNat : Int) _ = 0 := h0.symm
        have hl2 : (1 : Int) < ((r.length + 1 : Nat) : Int) := by omega
        have hl3 : 1 < r.length + 1 := by omega
        simp (config := { maxSteps := 1000000 }) only [hl, hb0, hl1, hl2, hl3, hbl, g0, g1, h0, k1, hkx, h8', hr', hK0, hd, Nat.zero_lt_succ, setv, reduceCtorEq, Nat.reduceEqDiff, Int.reduceToNat, Int.reduceLE, eq_self, frOf, setv, ↓reduceIte, ↓binI, ↓evRes, Opd.ev, Sx.get, put, putO, del, dels, rd, retOf, SV.ren, SV.renL, BB, ↓PB]
        exact ⟨[(0, 0)], rfl, by simp [compat, apartM, keysBelow, idHs, BB]⟩
      have wK : IntKind.i64.wrap ((K : Int) + 1) = ((K + 1 : Nat) : Int) := by rw [wrap64_eq (by omega) (by omega)]; omega
      by_cases hK0 : (K : Int) > 0
      case' pos =>
        obtain ⟨y, hy⟩ : ∃ y, r[0]? = some y := ⟨_, List.getElem?_eq_getElem (by omega)⟩
        have g1 : (bys (c :: r))[1]? = some (.int .u8 (y.toNat : Int)) := get_bysI (by simpa using hy)
        have hhd : D.head? = some (flU c.toNat y) := by
          rw [← hD]
          cases r with
          | nil => simp at hy
          | cons y' r' =>
            simp at hy
            obtain ⟨K', rfl⟩ : ∃ K', K = K' + 1 := ⟨K - 1, by omega⟩
            rw [← hy]; simp
        have h0 : (bitop .xor .u8 (y.toNat : Int) (flI c.toNat) == 0) = false := by
          rw [beq_eq_false_iff_ne, k2, ← hfl y]
          intro h
          apply hz
          rw [hhd]
          congr 1
          exact UInt8.toNat_inj.1 (by simpa using h)
        rw [k2] at h0
        have hl2 : (1 : Int) < ((r.length + 1 : Nat) : Int) := by omega
        have hl3 : 1 < r.length + 1 := by omega
        simp (config := { maxSteps := 1000000 }) only [hl, hb0, hl1, hl2, hl3, hbl, g0, g1, h0, k1, hkx, h8', hr', hK0, wK, Nat.add_sub_cancel, Nat.zero_lt_succ, setv, reduceCtorEq, Nat.reduceEqDiff, Int.reduceToNat, Int.reduceLE, eq_self, frOf, setv, ↓reduceIte, ↓binI, Opd.ev, Sx.get, put, putO, del, dels, rd, BB, ↓PB]
        refine ⟨by cases cap with
          | none => trivial
          | some q => exact hcap q rfl, by omega, by omega, ?_⟩
      case' neg =>
        simp (config := { maxSteps := 1000000 }) only [hl, hb0, hl1, hbl, g0, k1, hkx, h8', hr', hK0, wK, Nat.add_sub_cancel, Nat.zero_lt_succ, undef, setv, reduceCtorEq, Nat.reduceEqDiff, Int.reduceToNat, Int.reduceLE, eq_self, frOf, setv, ↓reduceIte, ↓binI, Opd.ev, Sx.get, put, putO, del, dels, rd, BB, ↓PB]
        refine ⟨by cases cap with
          | none => trivial
          | some q => exact hcap q rfl, by omega, by omega, ?_⟩
      all_goals
        rw [den_loop]
        refine den_inv cF_ok (σ := Nat) (fun i => [(48, .int .i64 (i : Int)), (47, .int .i64 (K : Int)), (46, .slc 0 1 1 K (cap.map (fun x => x - 1))), (7, .int .u64 (valB (D.take i) : Int)), (6, .int .i64 (K : Int)), (5, .int .u8 (flI c.toNat))])
          (fun _ => [(0, ⟨.view, bys (c :: r)⟩)]) (fun _ => 1) (fun i => i ≤ K) (fun i => K - i) 0 ⟨[(0, 0)], by simp [EntM, compat, apartM, keysBelow, eta, idHs, rd, ↓reduceIte, Kind.isOwn, exists_eq_left', ne_eq, implies_true, BB], by simp [k2, valB, frEnt, geto, eta, SV.ren, Nat.reduceEqDiff, ↓reduceIte, BB]⟩ (Nat.zero_le _) ?_
        intro i hi
        rw [k2]
        by_cases hiK : i < K
        · have d1 : (i : Int) < (K : Int) := by omega
          have d2 : (0 : Int) ≤ (i : Int) := by omega
          have wi : IntKind.i64.wrap ((i : Int) + 1) = ((i + 1 : Nat) : Int) := by rw [wrap64_eq (by omega) (by omega)]; omega
          obtain ⟨y, hy⟩ : ∃ y, r[i]? = some y := ⟨_, List.getElem?_eq_getElem (by omega)⟩
          have gy : (bys (c :: r))[1 + i]? = some (.int .u8 (y.toNat : Int)) := get_bysI (by rw [Nat.add_comm, List.getElem?_cons_succ]; exact hy)
          have hDi : D[i]? = some (flU c.toNat y) := by
            rw [← hD, List.getElem?_map, List.getElem?_take_of_lt hiK, hy]; rfl
          have hv : valB (D.take (i + 1)) = valB (D.take i) * 256 + (flU c.toNat y).toNat := by
            rw [List.take_add_one, hDi]; exact valB_snoc _ _
          have hlt : valB (D.take i) < 72057594037927936 := by
            have h1 := valB_lt (D.take i)
            have h2 : 256 ^ (D.take i).length ≤ 256 ^ 7 := Nat.pow_le_pow_right (by decide) (by simp; omega)
            have h3 : (256 : Nat) ^ 7 = 72057594037927936 := by decide
            omega
          have hor := or_byte hlt (flU c.toNat y).toNat_lt
          rw [hfl y, ← hv] at hor
          have q1 : 1 + i < r.length + 1 := by omega
          simp (config := { maxSteps := 1000000 }) only [hbl, gy, d1, d2, q1, wi, hor, Nat.reduceEqDiff, Int.reduceToNat, Int.reduceLE, eq_self, ↓reduceIte, ↓binI, Opd.ev, Sx.get, put, putO, del, dels, rd, BB, ↓PB]
          exact ⟨i + 1, ⟨[(0, 0)], by simp [EntM, compat, apartM, keysBelow, eta, idHs, rd, ↓reduceIte, Kind.isOwn, exists_eq_left', ne_eq, implies_true, BB], by simp [frEnt, geto, eta, SV.ren, Nat.reduceEqDiff, ↓reduceIte, BB]⟩, by omega, by omega⟩
        · obtain rfl : i = K := by omega
          have d1 : ¬ (i : Int) < (i : Int) := by omega
          rw [show D.take i = D from List.take_of_length_le (by omega)]
          simp (config := { maxSteps := 1000000 }) only [d1, Int.reduceGT, Nat.reduceEqDiff, Int.reduceToNat, Int.reduceLE, Int.reduceNeg, eq_self, ↓reduceIte, ↓binI, ↓evRes, Opd.ev, Sx.get, put, putO, del, dels, retOf, SV.ren, SV.renL, BB, ↓PB]
          have hm := valB_lt D
          have hm8 : valB D < 18446744073709551616 := by
            have h2 : 256 ^ D.length ≤ 256 ^ 8 := Nat.pow_le_pow_right (by decide) (by omega)
            have h3 : (256 : Nat) ^ 8 = 18446744073709551616 := by decide
            omega
          have e63 : min 63 IntKind.u64.bits = 63 := by decide
          have hsh : ((valB D : Int).fdiv (2 ^ min 63 IntKind.u64.bits) > 0) ↔ valB D ≥ 9223372036854775808 := by
            rw [e63]
            have : ((valB D : Int)).fdiv (2 ^ 63) = ((valB D / 9223372036854775808 : Nat) : Int) := (Int.ofNat_fdiv _ _).symm
            rw [this]
            omega
          constructor
          · intro h1
            have h1 := hsh.1 (of_decide_eq_true h1)
            have hd : decS (c :: r) = (0, 0, 6) := by rw [hdec, if_neg hz, if_pos h1]
            rw [hd]
            exact ⟨[(0, 0)], ⟨rfl, by simp [compat, apartM, keysBelow, idHs, BB]⟩, rfl, rfl, rfl⟩
          · intro h1
            have h1 : ¬ valB D ≥ 9223372036854775808 := fun h => of_decide_eq_false h1 (hsh.2 h)
            refine ⟨[(0, 0)], ⟨rfl, by simp [compat, apartM, keysBelow, idHs, BB]⟩, ?_⟩
            rw [hdec, if_neg hz, if_neg h1]
            first
              | (rw [if_pos (show c.toNat < 128 by omega), xor_max64]
                 exact ⟨by rw [IntKind.wrap]; simp [IntKind.bits, IntKind.signed]; omega, wK, rfl⟩)
              | (rw [if_neg (show ¬ c.toNat < 128 by omega)]
                 exact ⟨wrap64_eq (by omega) (by omega), wK, rfl⟩)
def gGetInt : GS
  | [.slc 0 0 1 len cap], [(0, ⟨.view, cells⟩)] => match unB cells with
    | some b => if len = b.length ∧ b.length ≤ 2 ^ 40 then (match capB cap b.length with
      | true => some (tup3 (decS b), [], 1)
      | false => none) else none
    | none => none
  | _, _ => none
theorem gGetInt_ok : FunS Tryd.prog tS 59 gGetInt := by
  intro a0 m0 r m1 n1 h
  unfold gGetInt at h
  split at h
  · split at h
    · rename_i b hb
      split at h
      · rename_i hc
        split at h
        · rename_i hcap
          cases h
          obtain ⟨rfl, h1⟩ := hc
          rw [unB_some hb]
          exact ⟨f59 b (by omega) _ (capB_ok hcap), by simp [freshB]⟩
        · cases h
      · cases h
    · cases h
  · cases h
end Go.Proofs.YtkfbkooobfepeaaDoor

/- The plain law of reading an integer. -/
namespace Go.Proofs.YtkfbkooobfepeaaDoor
open Go Go.Sx Sf
set_option maxRecDepth 100000
set_option linter.unusedSimpArgs false
set_option linter.unusedVariables false
def valR : List UInt8 → Nat
  | [] => 0
  | c :: l => valR l * 256 + c.toNat
theorem valB_R (l : List UInt8) : valB l = valR l.reverse := by
  unfold valB
  rw [List.foldl_eq_foldr_reverse]
  generalize l.reverse = q
  induction q with
  | nil => rfl
  | cons c q ih => simp only [List.foldr_cons, valR, ih]
theorem valR_byN : ∀ (l : List UInt8) (j : Nat) (c : UInt8), l[j]? = some c → byN (valR l) j = c.toNat
  | [], j, c, h => by simp at h
  | x :: l, 0, c, h => by
    simp at h; subst h
    have := x.toNat_lt
    simp only [valR, byN, Nat.pow_zero, Nat.div_one]; omega
  | x :: l, j + 1, c, h => by
    have hx := x.toNat_lt
    rw [byN_succ, show valR (x :: l) / 256 = valR l by simp only [valR]; omega]
    exact valR_byN l j c (by simpa using h)
theorem valB_byN {l : List UInt8} {i : Nat} {c : UInt8} (hi : l[i]? = some c) : byN (valB l) (l.length - 1 - i) = c.toNat := by
  have hl : i < l.length := (List.getElem?_eq_some_iff.1 hi).1
  rw [valB_R]
  apply valR_byN
  rw [List.getElem?_reverse (by omega)]
  rw [show l.length - 1 - (l.length - 1 - i) = i by omega]
  exact hi
theorem valB_top {c : UInt8} {l : List UInt8} (h : c ≠ 0) : 256 ^ l.length ≤ valB (c :: l) := by
  have hf : ∀ (l : List UInt8) (a : Nat), a * 256 ^ l.length ≤ l.foldl (fun a c => a * 256 + c.toNat) a := by
    intro l
    induction l with
    | nil => intro a; simp
    | cons x l ih =>
      intro a
      have := ih (a * 256 + x.toNat)
      simp only [List.foldl_cons, List.length_cons, Nat.pow_succ]
      have h1 : a * (256 ^ l.length * 256) ≤ (a * 256 + x.toNat) * 256 ^ l.length := by
        rw [Nat.mul_comm (256 ^ l.length) 256, ← Nat.mul_assoc]; exact Nat.mul_le_mul_right _ (by omega)
      omega
  have h0 : 1 ≤ c.toNat := by
    rcases Nat.eq_zero_or_pos c.toNat with h1 | h1
    · exact absurd (UInt8.toNat_inj.1 (by simpa using h1)) h
    · exact h1
  unfold valB
  simp only [List.foldl_cons, Nat.zero_mul, Nat.zero_add]
  have := hf l c.toNat
  have h1 : 1 * 256 ^ l.length ≤ c.toNat * 256 ^ l.length := Nat.mul_le_mul_right _ h0
  omega
theorem valB_top0 {l : List UInt8} : valB (0 :: l) < 256 ^ l.length := by
  have := fold_lt l 0
  unfold valB
  simp only [List.foldl_cons]
  simpa using this

def numS (c : UInt8) (D : List UInt8) : Int := if c.toNat < 128 then -1 - (valB D : Int) else (valB D : Int)
theorem numS_facts {c : UInt8} {D : List UInt8} (h : valB D < 9223372036854775808) : R64 (numS c D) ∧ magN (numS c D) = valB D ∧ (numS c D < 0 ↔ c.toNat < 128) := by
  unfold numS magN R64
  by_cases hc : c.toNat < 128
  · simp only [hc, if_true]
    rw [if_pos (by omega)]
    exact ⟨by omega, by omega, by simp; omega⟩
  · simp only [hc, if_false]
    rw [if_neg (by omega)]
    exact ⟨by omega, by omega, by simp⟩
theorem flU_inv {h : Nat} {y : UInt8} : UInt8.ofNat (if h < 128 then 255 - (flU h y).toNat else (flU h y).toNat) = y := by
  have hy := y.toNat_lt
  apply UInt8.toNat_inj.1
  unfold flU
  by_cases hh : h < 128
  · simp only [hh, if_true, UInt8.toNat_ofNat']; omega
  · simp only [hh, if_false, UInt8.toNat_ofNat']; omega
theorem enc_of_dec {c : UInt8} {r : List UInt8} (h8 : kOf c.toNat ≤ 8) (hr : kOf c.toNat ≤ r.length) (hz : ((r.take (kOf c.toNat)).map (flU c.toNat)).head? ≠ some 0)
    (hv : valB ((r.take (kOf c.toNat)).map (flU c.toNat)) < 9223372036854775808) : encI (numS c ((r.take (kOf c.toNat)).map (flU c.toNat))) = c :: r.take (kOf c.toNat) := by
  obtain ⟨hn, hm, hs⟩ := numS_facts (c := c) hv
  obtain ⟨K, h1, h2, h3, h4⟩ := encI_form' hn
  rw [h4]
  rw [hm] at h2 h3
  have hcl := c.toNat_lt
  generalize hk : kOf c.toNat = k at *
  generalize hD : (r.take k).map (flU c.toNat) = D at *
  have hDl : D.length = k := by rw [← hD]; simp; omega
  have hK : K = k := by
    have hlt := valB_lt D
    rw [hDl] at hlt
    cases D with
    | nil =>
      simp at hDl
      rcases h3 with h3 | h3
      · omega
      · have : 0 < 256 ^ (K - 1) := Nat.pow_pos (by decide)
        simp [valB] at h3
    | cons d D =>
      have hd : d ≠ 0 := by intro h; apply hz; simp [h]
      have htop := valB_top (l := D) hd
      simp at hDl
      rcases Nat.lt_trichotomy K k with hlt2 | rfl | hgt
      · have : 256 ^ K ≤ 256 ^ D.length := Nat.pow_le_pow_right (by decide) (by omega)
        omega
      · rfl
      · rcases h3 with h3 | h3
        · omega
        · have : 256 ^ k ≤ 256 ^ (K - 1) := Nat.pow_le_pow_right (by decide) (by omega)
          omega
  subst hK
  congr 1
  · apply UInt8.toNat_inj.1
    have hkk : kOf c.toNat = K := hk
    unfold kOf at hkk
    by_cases hc : c.toNat < 128
    · rw [if_pos (hs.2 hc), UInt8.toNat_ofNat']
      rw [if_pos hc] at hkk; omega
    · rw [if_neg (fun h => hc (hs.1 h)), UInt8.toNat_ofNat']
      rw [if_neg hc] at hkk; omega
  · apply List.ext_getElem?
    intro i
    by_cases hi : i < K
    · obtain ⟨y, hy⟩ : ∃ y, r[i]? = some y := ⟨_, List.getElem?_eq_getElem (by omega)⟩
      have hDi : D[i]? = some (flU c.toNat y) := by
        rw [← hD, List.getElem?_map, List.getElem?_take_of_lt hi, hy]; rfl
      have hb := valB_byN hDi
      rw [hDl] at hb
      rw [List.getElem?_take_of_lt hi, hy, List.getElem?_map, List.getElem?_reverse (by simpa using hi), List.length_range, List.getElem?_range (by omega)]
      simp only [Option.map_some, Option.some.injEq]
      rw [hm, hb]
      have := flU_inv (h := c.toNat) (y := y)
      by_cases hc : c.toNat < 128
      · rw [if_pos (hs.2 hc)]; rw [if_pos hc] at this; exact this
      · rw [if_neg (fun h => hc (hs.1 h))]; rw [if_neg hc] at this; exact this
    · rw [List.getElem?_eq_none (by simp; omega), List.getElem?_eq_none (by simp; omega)]
theorem enc_of_zero {c : UInt8} {D : List UInt8} (hz : D.head? = some 0) (hv : valB D < 9223372036854775808) : (encI (numS c D)).length ≠ D.length + 1 := by
  obtain ⟨hn, hm, hs⟩ := numS_facts (c := c) hv
  obtain ⟨K, h1, h2, h3, h4⟩ := encI_form' hn
  rw [h4]
  rw [hm] at h3
  cases D with
  | nil => simp at hz
  | cons d D =>
    simp at hz
    subst hz
    have htop := valB_top0 (l := D)
    simp only [List.length_cons, List.length_map, List.length_reverse, List.length_range]
    intro he
    rcases h3 with h3 | h3
    · omega
    · rw [show K - 1 = D.length by omega] at h3; omega
theorem enc_dec {b : List UInt8} {n : Int} {u : Nat} (h : decS b = (n, u, 0)) : R64 n ∧ u ≤ b.length ∧ b.take u = encI n := by
  unfold decS at h
  split at h
  · simp at h
  · rename_i c r
    split at h
    · simp at h
    · split at h
      · simp at h
      · split at h
        · simp at h
        · split at h
          · simp at h
          · rename_i h1 h2 h3 h4
            simp only [Prod.mk.injEq, and_true] at h
            obtain ⟨h5, rfl⟩ := h
            have hn : n = numS c ((r.take (kOf c.toNat)).map (flU c.toNat)) := h5.symm
            rw [hn, enc_of_dec (by omega) (by omega) h3 (by omega)]
            exact ⟨(numS_facts (by omega)).1, by simp; omega, by simp⟩
end Go.Proofs.YtkfbkooobfepeaaDoor

/- The reference's reading of an integer. -/
namespace Go.Proofs.YtkfbkooobfepeaaDoor
open Go Go.Sx Sf
set_option maxRecDepth 100000
set_option linter.unusedVariables false
variable {tS : List (Nat × List SV)}
theorem f72 (a b : List UInt8) (ha : a.length ≤ 2 ^ 62) (cap cap' : Option Nat) :
    Fun Tryd.prog tS 72 [.slc 0 0 1 a.length cap, .slc 1 0 1 b.length cap'] [(0, ⟨.view, bys a⟩), (1, ⟨.view, bys b⟩)] 2 (.bool (a == b)) [] 2 := by
  refine fun_any none cF cF_ok chk72 (show 2 ≤ 26 by decide) (by decide) ?_
  unfold sf72 oh om oq
  have hla := len_bytes a
  have hlb := len_bytes b
  by_cases hl : a.length = b.length
  · have e0 : ((a.length : Int) != (b.length : Int)) = false := by simp [hl]
    simp (config := { maxSteps := 1000000 }) only [e0, reduceCtorEq, Nat.reduceEqDiff, eq_self, frOf, ↓reduceIte, ↓binI, Opd.ev, Sx.get, put, putO, del, dels, BB, ↓PB]
    rw [den_loop]
    refine den_inv cF_ok (σ := Nat) (fun i => [(5, .int .i64 (i : Int)), (1, .slc 1 0 1 b.length cap'), (0, .slc 0 0 1 a.length cap)])
      (fun _ => [(0, ⟨.view, bys a⟩), (1, ⟨.view, bys b⟩)]) (fun _ => 2) (fun i => i ≤ a.length ∧ a.take i = b.take i) (fun i => a.length - i) 0 ⟨[(0, 0), (1, 0)], by simp [EntM, compat, apartM, keysBelow, eta, idHs, rd, Nat.reduceAdd, Nat.reduceLeDiff, ↓reduceIte, Kind.isOwn, exists_eq_left', ne_eq, implies_true, forall_eq, BB], by simp [frEnt, geto, eta, SV.ren, Nat.reduceAdd, Nat.reduceEqDiff, Nat.reduceLeDiff, ↓reduceIte, reduceCtorEq, BB]⟩ ⟨Nat.zero_le _, rfl⟩ ?_
    rintro i ⟨hi, he⟩
    by_cases h : i < a.length
    · have c1 : (i : Int) < (a.length : Int) := by omega
      have c1' : (i : Int) < (b.length : Int) := by omega
      have c2 : (0 : Int) ≤ (i : Int) := by omega
      have h' : i < b.length := by omega
      have wi : IntKind.i64.wrap ((i : Int) + 1) = ((i + 1 : Nat) : Int) := by rw [wrap64_eq (by omega) (by omega)]; omega
      obtain ⟨x, hx⟩ : ∃ x, a[i]? = some x := ⟨_, List.getElem?_eq_getElem h⟩
      obtain ⟨y, hy⟩ : ∃ y, b[i]? = some y := ⟨_, List.getElem?_eq_getElem h'⟩
      have gx := get_bysI hx
      have gy := get_bysI hy
      by_cases hxy : x = y
      · subst hxy
        have e1 : ((x.toNat : Int) != (x.toNat : Int)) = false := by simp
        simp (config := { maxSteps := 1000000 }) only [c1, c1', c2, h, h', wi, gx, gy, e1, reduceCtorEq, Nat.reduceEqDiff, eq_self, ↓reduceIte, ↓binI, Opd.ev, Sx.get, put, putO, del, dels, rd, BB, ↓PB]
        exact ⟨i + 1, ⟨[(0, 0), (1, 0)], by simp [EntM, compat, apartM, keysBelow, eta, idHs, rd, Nat.reduceAdd, Nat.reduceLeDiff, ↓reduceIte, Kind.isOwn, exists_eq_left', ne_eq, implies_true, forall_eq, BB], by simp [frEnt, geto, eta, SV.ren, Nat.reduceAdd, Nat.reduceEqDiff, Nat.reduceLeDiff, ↓reduceIte, reduceCtorEq, BB]⟩, ⟨by omega, by rw [List.take_add_one, List.take_add_one, he, hx, hy]⟩, by omega⟩
      · have e1 : ((x.toNat : Int) != (y.toNat : Int)) = true := by
          rw [bne_iff_ne]
          intro h
          exact hxy (UInt8.toNat_inj.1 (by omega))
        have hf : (a == b) = false := by
          rw [beq_eq_false_iff_ne]
          rintro rfl
          rw [hx] at hy
          exact hxy (Option.some.inj hy)
        simp (config := { maxSteps := 1000000 }) only [c1, c1', c2, h, h', gx, gy, e1, hf, reduceCtorEq, Nat.reduceEqDiff, eq_self, ↓reduceIte, ↓binI, ↓evRes, Opd.ev, Sx.get, put, putO, del, dels, rd, retOf, SV.ren, BB, ↓PB]
        exact ⟨[(0, 0), (1, 0)], rfl, by simp [compat, apartM, keysBelow, idHs, BB]⟩
    · obtain rfl : i = a.length := by omega
      have c1 : ¬ (a.length : Int) < (a.length : Int) := by omega
      have hf : (a == b) = true := by
        rw [List.take_length, hl, List.take_length] at he
        rw [he]; simp
      simp (config := { maxSteps := 1000000 }) only [c1, hf, reduceCtorEq, Nat.reduceEqDiff, eq_self, ↓reduceIte, ↓binI, ↓evRes, Opd.ev, Sx.get, put, putO, del, dels, retOf, SV.ren, BB, ↓PB]
      exact ⟨[(0, 0), (1, 0)], rfl, by simp [compat, apartM, keysBelow, idHs, BB]⟩
  · have e0 : ((a.length : Int) != (b.length : Int)) = true := by simp; omega
    have hf : (a == b) = false := by
      rw [beq_eq_false_iff_ne]
      rintro rfl
      exact hl rfl
    simp (config := { maxSteps := 1000000 }) only [e0, hf, reduceCtorEq, Nat.reduceEqDiff, eq_self, frOf, ↓reduceIte, ↓binI, ↓evRes, Opd.ev, Sx.get, put, putO, del, dels, retOf, SV.ren, BB, ↓PB]
    exact ⟨[(0, 0), (1, 0)], rfl, by simp [compat, apartM, keysBelow, idHs, BB]⟩
theorem valB_app (a b : List UInt8) : valB a * 256 ^ b.length ≤ valB (a ++ b) := by
  have hf : ∀ (l : List UInt8) (a : Nat), a * 256 ^ l.length ≤ l.foldl (fun a c => a * 256 + c.toNat) a := by
    intro l
    induction l with
    | nil => intro a; simp
    | cons x l ih =>
      intro a
      have := ih (a * 256 + x.toNat)
      simp only [List.foldl_cons, List.length_cons, Nat.pow_succ]
      have h1 : a * (256 ^ l.length * 256) ≤ (a * 256 + x.toNat) * 256 ^ l.length := by
        rw [Nat.mul_comm (256 ^ l.length) 256, ← Nat.mul_assoc]; exact Nat.mul_le_mul_right _ (by omega)
      omega
  have := hf b (valB a)
  unfold valB at *
  rw [List.foldl_append]; exact this
def gSame : GS
  | [.slc 0 0 1 len _, .slc 1 0 1 len' _], [(0, ⟨.view, cells⟩), (1, ⟨.view, cells'⟩)] => match unB cells, unB cells' with
    | some a, some b => if len = a.length ∧ len' = b.length ∧ a.length ≤ 2 ^ 40 then some (.bool (a == b), [], 2) else none
    | _, _ => none
  | _, _ => none
theorem gSame_ok : FunS Tryd.prog tS 72 gSame := by
  intro a0 m0 r m1 n1 h
  unfold gSame at h
  split at h
  · split at h
    · rename_i a b ha hb
      split at h
      · rename_i hc
        obtain ⟨rfl, rfl, h1⟩ := hc
        cases h
        rw [unB_some ha, unB_some hb]
        exact ⟨f72 a b (by omega) _ _, by simp [freshB]⟩
      · cases h
    · cases h
  · cases h
def tabP : List (FuncId × GS) := [(38, gIntR), (72, gSame)]
theorem tabP_ok : ∀ x ∈ tabP, FunS Tryd.prog tS x.1 x.2 := by
  intro x hx
  simp only [tabP, List.mem_cons, List.not_mem_nil, or_false] at hx
  rcases hx with rfl | rfl
  · exact gIntR_ok
  · exact gSame_ok
set_option maxHeartbeats 8000000 in
theorem f50 (b : List UInt8) (hb : b.length ≤ 2 ^ 40) (cap : Option Nat) (hcap : CapOk cap b.length) :
    Fun Tryd.prog tS 50 [.slc 0 0 1 b.length cap] [(0, ⟨.view, bys b⟩)] 1 (tup3 (decS b)) [] 1 := by
  refine fun_any none (callS tabP cF) (callS_ok tabP_ok cF_ok) chk50 (show 1 ≤ 71 by decide) (by decide) ?_
  unfold sf50 og oh om oq tup3
  cases b with
  | nil =>
    have e0 : bys ([] : List UInt8) = [] := rfl
    simp (config := { maxSteps := 1000000 }) only [reduceCtorEq, Nat.reduceEqDiff, Int.reduceNeg, eq_self, frOf, ↓reduceIte, ↓binI, ↓evRes, Opd.ev, Sx.get, put, putO, del, dels, retOf, SV.ren, SV.renL, BB, ↓PB]
    exact ⟨[(0, 0)], ⟨rfl, by simp [compat, apartM, keysBelow, idHs, BB]⟩, rfl, rfl, rfl⟩
  | cons c r =>
    have hc := c.toNat_lt
    have g0 : (bys (c :: r))[0]? = some (.int .u8 (c.toNat : Int)) := get_bysI rfl
    have hl : (c :: r).length = r.length + 1 := rfl
    have hb0 : (((r.length + 1 : Nat) : Int) == 0) = false := by simp; omega
    have hl1 : (0 : Int) < ((r.length + 1 : Nat) : Int) := by omega
    have hbl := len_bytes (c :: r)
    rw [hl] at hbl hb hcap
    have wc : IntKind.i64.wrap (c.toNat : Int) = (c.toNat : Int) := wrap64_eq (by omega) (by omega)
    by_cases h119 : (c.toNat : Int) < 119
    · have hd : decS (c :: r) = (0, 0, 6) := by simp only [decS]; rw [if_pos]; unfold kOf; split <;> omega
      simp (config := { maxSteps := 1000000 }) only [hl, hb0, hl1, hbl, g0, wc, h119, hd, Nat.zero_lt_succ, undef, setv, reduceCtorEq, Nat.reduceEqDiff, Int.reduceToNat, Int.reduceLE, Int.reduceNeg, eq_self, frOf, setv, ↓reduceIte, ↓binI, ↓evRes, Opd.ev, Sx.get, put, putO, del, dels, rd, retOf, SV.ren, SV.renL, BB, ↓PB]
      exact ⟨[(0, 0)], rfl, by simp [compat, apartM, keysBelow, idHs, BB]⟩
    by_cases h136 : (c.toNat : Int) > 136
    · have hd : decS (c :: r) = (0, 0, 6) := by simp only [decS]; rw [if_pos]; unfold kOf; split <;> omega
      simp (config := { maxSteps := 1000000 }) only [hl, hb0, hl1, hbl, g0, wc, h119, h136, hd, Nat.zero_lt_succ, setv, reduceCtorEq, Nat.reduceEqDiff, Int.reduceToNat, Int.reduceLE, Int.reduceNeg, eq_self, frOf, setv, ↓reduceIte, ↓binI, ↓evRes, Opd.ev, Sx.get, put, putO, del, dels, rd, retOf, SV.ren, SV.renL, BB, ↓PB]
      exact ⟨[(0, 0)], rfl, by simp [compat, apartM, keysBelow, idHs, BB]⟩
    have h8 : kOf c.toNat ≤ 8 := by unfold kOf; split <;> omega
    have key : (((c.toNat : Int) < 128) ∧ IntKind.i64.wrap (127 - (c.toNat : Int)) = (kOf c.toNat : Int) ∧ c.toNat < 128) ∨ (¬ ((c.toNat : Int) < 128) ∧ IntKind.i64.wrap ((c.toNat : Int) - 128) = (kOf c.toNat : Int) ∧ ¬ c.toNat < 128) := by
      unfold kOf
      by_cases hh : c.toNat < 128
      · left; rw [if_pos hh]; exact ⟨by omega, by rw [wrap64_eq (by omega) (by omega)]; omega, hh⟩
      · right; rw [if_neg hh]; exact ⟨by omega, by rw [wrap64_eq (by omega) (by omega)]; omega, hh⟩
    have wK : IntKind.i64.wrap ((kOf c.toNat : Int) + 1) = ((kOf c.toNat + 1 : Nat) : Int) := by rw [wrap64_eq (by omega) (by omega)]; omega
    have wx : IntKind.i64.wrap ((c.toNat : Int) - 128) = (c.toNat : Int) - 128 := wrap64_eq (by omega) (by omega)
    rcases key with ⟨k1, k2, k3⟩ | ⟨k1, k2, k3⟩
    all_goals
      by_cases hr : r.length < kOf c.toNat
      · have hr' : ((r.length + 1 : Nat) : Int) < ((kOf c.toNat + 1 : Nat) : Int) := by omega
        have hd : decS (c :: r) = (0, 0, 5) := by simp only [decS]; rw [if_neg (by omega), if_pos hr]
        simp (config := { maxSteps := 1000000 }) only [hl, hb0, hl1, hbl, g0, wc, h119, h136, k1, k2, wK, hr', hd, Nat.zero_lt_succ, setv, reduceCtorEq, Nat.reduceEqDiff, Int.reduceToNat, Int.reduceLE, Int.reduceNeg, eq_self, frOf, setv, ↓reduceIte, ↓binI, ↓evRes, Opd.ev, Sx.get, put, putO, del, dels, rd, retOf, SV.ren, SV.renL, BB, ↓PB]
        exact ⟨[(0, 0)], rfl, by simp [compat, apartM, keysBelow, idHs, BB]⟩
      have hr' : ¬ ((r.length + 1 : Nat) : Int) < ((kOf c.toNat + 1 : Nat) : Int) := by omega
      simp (config := { maxSteps := 1000000 }) only [hl, hb0, hl1, hbl, g0, wc, h119, h136, k1, k2, wK, hr', Nat.zero_lt_succ, setv, reduceCtorEq, Nat.reduceEqDiff, Int.reduceToNat, Int.reduceLE, Int.reduceNeg, eq_self, frOf, setv, ↓reduceIte, ↓binI, Opd.ev, Sx.get, put, putO, del, dels, rd, BB, ↓PB]
      rw [den_loop]
      have hk8 := h8
      generalize hK : kOf c.toNat = K at *
      generalize hD : (r.take K).map (flU c.toNat) = D at *
      have hDl : D.length = K := by rw [← hD]; simp; omega
      have hdec : decS (c :: r) = if D.head? = some 0 then (0, 0, 6) else if valB D ≥ 9223372036854775808 then (0, 0, 6) else (numS c D, K + 1, 0) := by
        simp only [decS, hK, hD]
        rw [if_neg (by omega), if_neg hr]; rfl
      refine den_inv (callS_ok tabP_ok cF_ok) (σ := Nat) (fun i => [(8, .int .i64 ((i + 1 : Nat) : Int)), (7, .int .i64 (valB (D.take i) : Int)), (6, .int .i64 (K : Int)), (5, .int .i64 (c.toNat : Int)), (0, .slc 0 0 1 (r.length + 1) cap)])
        (fun _ => [(0, ⟨.view, bys (c :: r)⟩)]) (fun _ => 1) (fun i => i ≤ K ∧ valB (D.take i) < 9223372036854775808) (fun i => K - i) 0 ⟨[(0, 0)], by simp [EntM, compat, apartM, keysBelow, eta, idHs, rd, ↓reduceIte, Kind.isOwn, exists_eq_left', ne_eq, implies_true, BB], by simp [valB, frEnt, geto, eta, SV.ren, Nat.reduceEqDiff, ↓reduceIte, reduceCtorEq, BB]⟩ ⟨Nat.zero_le _, by simp [valB]⟩ ?_
      rintro i ⟨hi, hlt⟩
      by_cases hiK : i < K
      · have d1 : ((i + 1 : Nat) : Int) ≤ (K : Int) := by omega
        have d2 : (0 : Int) ≤ ((i + 1 : Nat) : Int) := by omega
        have d3 : ((i + 1 : Nat) : Int) < ((r.length + 1 : Nat) : Int) := by omega
        have wi : IntKind.i64.wrap (((i + 1 : Nat) : Int) + 1) = ((i + 1 + 1 : Nat) : Int) := by rw [wrap64_eq (by omega) (by omega)]; omega
        obtain ⟨y, hy⟩ : ∃ y, r[i]? = some y := ⟨_, List.getElem?_eq_getElem (by omega)⟩
        have hyl := y.toNat_lt
        have gy : (bys (c :: r))[i + 1]? = some (.int .u8 (y.toNat : Int)) := get_bysI (by rw [List.getElem?_cons_succ]; exact hy)
        have wy : IntKind.i64.wrap (y.toNat : Int) = (y.toNat : Int) := wrap64_eq (by omega) (by omega)
        have wy2 : IntKind.i64.wrap (255 - (y.toNat : Int)) = 255 - (y.toNat : Int) := wrap64_eq (by omega) (by omega)
        have hDi : D[i]? = some (flU c.toNat y) := by
          rw [← hD, List.getElem?_map, List.getElem?_take_of_lt hiK, hy]; rfl
        have hv : valB (D.take (i + 1)) = valB (D.take i) * 256 + (flU c.toNat y).toNat := by
          rw [List.take_add_one, hDi]; exact valB_snoc _ _
        have hfv : (flU c.toNat y).toNat = if c.toNat < 128 then 255 - y.toNat else y.toNat := by
          unfold flU
          by_cases hh : c.toNat < 128
          · rw [if_pos hh, if_pos hh, UInt8.toNat_ofNat']; omega
          · rw [if_neg hh, if_neg hh]
        have q1 : i + 1 < r.length + 1 := by omega
        by_cases hbig : (valB (D.take i) : Int) > 36028797018963967
        · have hd : decS (c :: r) = (0, 0, 6) := by
            have hge : valB D ≥ 9223372036854775808 := by
              have h1 := valB_app (D.take i) (D.drop i)
              rw [List.take_append_drop] at h1
              have h2 : 256 ^ 1 ≤ 256 ^ (D.drop i).length := Nat.pow_le_pow_right (by decide) (by simp; omega)
              have h3 : 36028797018963968 * 256 ^ 1 ≤ valB (D.take i) * 256 ^ (D.drop i).length := Nat.mul_le_mul (by omega) h2
              omega
            rw [hdec]
            by_cases hz : D.head? = some 0
            · rw [if_pos hz]
            · rw [if_neg hz, if_pos hge]
          simp (config := { maxSteps := 1000000 }) only [hbl, gy, d1, d2, d3, q1, wy, wy2, k1, hbig, hd, reduceCtorEq, Nat.reduceEqDiff, Int.reduceNeg, eq_self, ↓reduceIte, ↓binI, ↓evRes, Opd.ev, Sx.get, put, putO, del, dels, rd, retOf, SV.ren, SV.renL, BB, ↓PB]
          exact ⟨[(0, 0)], rfl, by simp [compat, apartM, keysBelow, idHs, BB]⟩
        · have w1 : IntKind.i64.wrap (256 * (valB (D.take i) : Int)) = 256 * (valB (D.take i) : Int) := wrap64_eq (by omega) (by omega)
          have w2 : IntKind.i64.wrap (256 * (valB (D.take i) : Int) + (255 - (y.toNat : Int))) = 256 * (valB (D.take i) : Int) + (255 - (y.toNat : Int)) := wrap64_eq (by omega) (by omega)
          have w3 : IntKind.i64.wrap (256 * (valB (D.take i) : Int) + (y.toNat : Int)) = 256 * (valB (D.take i) : Int) + (y.toNat : Int) := wrap64_eq (by omega) (by omega)
          simp (config := { maxSteps := 1000000 }) only [hbl, gy, d1, d2, d3, q1, wi, wy, wy2, k1, hbig, w1, w2, w3, reduceCtorEq, Nat.reduceEqDiff, Int.reduceNeg, eq_self, ↓reduceIte, ↓binI, Opd.ev, Sx.get, put, putO, del, dels, rd, BB, ↓PB]
          have hv2 : (valB (D.take (i + 1)) : Int) = 256 * (valB (D.take i) : Int) + ((flU c.toNat y).toNat : Int) := by rw [hv]; omega
          refine ⟨i + 1, ⟨[(0, 0)], by simp [EntM, compat, apartM, keysBelow, eta, idHs, rd, ↓reduceIte, Kind.isOwn, exists_eq_left', ne_eq, implies_true, BB], ?_⟩, ⟨by omega, ?_⟩, by omega⟩
          · rw [hv2, hfv]
            simp only [k3, frEnt, geto, eta, SV.ren, Nat.reduceSub, Nat.reduceEqDiff, ↓reduceIte, reduceCtorEq, BB]
            try (congr 2; omega)
          · rw [hv, hfv]
            split <;> omega
      · obtain rfl : i = K := by omega
        rw [show D.take i = D from List.take_of_length_le (by omega)] at hlt ⊢
        have d1 : ¬ ((i + 1 : Nat) : Int) ≤ (i : Int) := by omega
        obtain ⟨hn, hm, hs⟩ := numS_facts (c := c) hlt
        have hnum : numS c D = if c.toNat < 128 then -1 - (valB D : Int) else (valB D : Int) := rfl
        have wn : IntKind.i64.wrap (-1 - (valB D : Int)) = -1 - (valB D : Int) := wrap64_eq (by omega) (by omega)
        have tk : List.take (i + 1) (bys (c :: r)) = bys (c :: r.take i) := by
          simp only [bys, List.map_cons, List.take_succ_cons, List.map_take]
        have ltk : (c :: r.take i).length = i + 1 := by simp; omega
        have hb40 : (encR (numS c D)).length ≤ 2 ^ 40 := by have := encR_len (numS c D); omega
        have hfl := flat_bytes (c :: r.take i)
        have hsm : (encR (numS c D) == c :: r.take i) = !(decide (D.head? = some 0)) := by
          rw [← enc_same hn]
          by_cases hz : D.head? = some 0
          · have := enc_of_zero (c := c) hz hlt
            rw [hDl] at this
            rw [decide_eq_true hz, Bool.not_true, beq_eq_false_iff_ne]
            intro h
            rw [h, ltk] at this
            exact this rfl
          · have := enc_of_dec (c := c) (r := r) (by omega) (by omega) (by rw [hK, hD]; exact hz) (by rw [hK, hD]; exact hlt)
            rw [hK, hD] at this
            rw [decide_eq_false hz, this]; simp
        have hdec2 : decS (c :: r) = if D.head? = some 0 then (0, 0, 6) else (numS c D, i + 1, 0) := by
          rw [hdec]
          by_cases hz : D.head? = some 0
          · rw [if_pos hz, if_pos hz]
          · rw [if_neg hz, if_neg hz, if_neg (by omega)]
        simp only [hnum, k3, if_true, if_false] at hsm hb40 hdec2
        have kk : (0 : Int) ≤ ((i + 1 : Nat) : Int) := by omega
        have kk2 : ((i + 1 : Nat) : Int) ≤ ((r.length + 1 : Nat) : Int) := by omega
        have kk3 : i + 1 ≤ r.length + 1 := by omega
        simp (config := { maxSteps := 1000000 }) only [tabP, gIntR, gSame, hbl, d1, k1, wn, wK, tk, ltk, unB_bytes, hb40, hfl, hsm, kk, kk2, kk3, lookF, reduceCtorEq, Nat.reduceEqDiff, Nat.reduceAdd, Nat.reduceSub, Nat.reduceLeDiff, Nat.reduceLT, Int.reduceToNat, Int.reduceLE, Int.reduceNeg, false_imp_iff, eq_self, ↓reduceIte, ↓binI, ↓binS, ↓evRes, evA, Opd.ev, Sx.get, put, putO, del, dels, frD, memD, pickD, kills, views, newer, rd, retOf, canLW, canV, canC, belowL, apH, apH1, eta, SV.ren, SV.renL, newOwn, targets, rms, Kind.isOwn, BB, ↓PB]
        refine ⟨by cases cap with
          | none => trivial
          | some q => exact hcap q rfl, ?_, ?_⟩
        · intro h
          rw [Bool.not_not] at h
          rw [hdec2, if_pos (of_decide_eq_true h)]
          exact ⟨[(0, 0)], ⟨rfl, by simp [compat, apartM, keysBelow, idHs, BB]⟩, rfl, rfl, rfl⟩
        · intro h
          rw [Bool.not_not] at h
          rw [hdec2, if_neg (of_decide_eq_false h)]
          exact ⟨[(0, 0)], ⟨rfl, by simp [compat, apartM, keysBelow, idHs, BB]⟩, rfl, rfl, rfl⟩
def gGetIntR : GS
  | [.slc 0 0 1 len cap], [(0, ⟨.view, cells⟩)] => match unB cells with
    | some b => if len = b.length ∧ b.length ≤ 2 ^ 40 then (match capB cap b.length with
      | true => some (tup3 (decS b), [], 1)
      | false => none) else none
    | none => none
  | _, _ => none
theorem gGetIntR_ok : FunS Tryd.prog tS 50 gGetIntR := by
  intro a0 m0 r m1 n1 h
  unfold gGetIntR at h
  split at h
  · split at h
    · rename_i b hb
      split at h
      · rename_i hc
        split at h
        · rename_i hcap
          cases h
          obtain ⟨rfl, h1⟩ := hc
          rw [unB_some hb]
          exact ⟨f50 b h1 _ (capB_ok hcap), by simp [freshB]⟩
        · cases h
      · cases h
    · cases h
  · cases h
end Go.Proofs.YtkfbkooobfepeaaDoor

/- Package wire and the reference: the reading of counts and of texts. -/
namespace Go.Proofs.YtkfbkooobfepeaaDoor
open Go Go.Sx Sf
set_option maxRecDepth 100000
set_option linter.unusedVariables false
variable {tS : List (Nat × List SV)}
theorem dec_err {b : List UInt8} {n : Int} {u : Nat} {e : Int} (h : decS b = (n, u, e)) : (e = 0 ∧ R64 n ∧ u ≤ b.length ∧ 0 < u) ∨ (e ≠ 0 ∧ n = 0 ∧ u = 0) := by
  by_cases he : e = 0
  · subst he
    obtain ⟨h1, h2, h3⟩ := enc_dec h
    refine .inl ⟨rfl, h1, h2, ?_⟩
    have := congrArg List.length h3
    simp only [encI, List.length_cons, List.length_take] at this
    omega
  · refine .inr ⟨he, ?_⟩
    unfold decS at h
    split at h
    · simp at h; exact ⟨h.1.symm, h.2.1.symm⟩
    · split at h
      · simp at h; exact ⟨h.1.symm, h.2.1.symm⟩
      · split at h
        · simp at h; exact ⟨h.1.symm, h.2.1.symm⟩
        · split at h
          · simp at h; exact ⟨h.1.symm, h.2.1.symm⟩
          · split at h
            · simp at h; exact ⟨h.1.symm, h.2.1.symm⟩
            · simp only [Prod.mk.injEq] at h
              exact absurd h.2.2.symm he
def tabQ : List (FuncId × GS) := [(59, gGetInt), (50, gGetIntR)]
theorem tabQ_ok : ∀ x ∈ tabQ, FunS Tryd.prog tS x.1 x.2 := by
  intro x hx
  simp only [tabQ, List.mem_cons, List.not_mem_nil, or_false] at hx
  rcases hx with rfl | rfl
  · exact gGetInt_ok
  · exact gGetIntR_ok
def cntE (b : List UInt8) (s : Nat) : Int := if (decS b).2.2 ≠ 0 then (decS b).2.2 else if (decS b).1 < 0 then 6 else if (decS b).1 > (((b.length - (decS b).2.1) / s : Nat) : Int) then 5 else 0
def cntP (b : List UInt8) (s : Nat) : Int × Nat × Int := ((decS b).1, (decS b).2.1, cntE b s)
def cntR (b : List UInt8) (s : Nat) : Int × Nat × Int := if cntE b s ≠ 0 then (0, 0, cntE b s) else ((decS b).1, (decS b).2.1, 0)
theorem f69 (b : List UInt8) (s : Nat) (hs : 1 ≤ s) (hs2 : s ≤ 1000) (hb : b.length ≤ 2 ^ 40) :
    Fun Tryd.prog tS 69 [.slc 0 0 1 b.length none, .int .i64 (s : Int)] [(0, ⟨.view, bys b⟩)] 1 (tup3 (cntP b s)) [] 1 := by
  refine fun_any none (callS tabQ cF) (callS_ok tabQ_ok cF_ok) chk69 (show 2 ≤ 31 by decide) (by decide) ?_
  unfold sf69 om oq tup3 cntP cntE
  have fl := flat_bytes b
  rcases hx : decS b with ⟨n, u, e⟩
  simp only
  rcases dec_err hx with ⟨rfl, h1, h2, h3⟩ | ⟨he, rfl, rfl⟩
  · have w1 : IntKind.i64.wrap ((b.length : Int) - (u : Int)) = ((b.length - u : Nat) : Int) := by rw [wrap64_eq (by omega) (by omega)]; omega
    have w2 : IntKind.i64.wrap (((b.length - u : Nat) : Int).tdiv (s : Int)) = (((b.length - u) / s : Nat) : Int) := by
      have e1 : ((b.length - u : Nat) : Int).tdiv (s : Int) = (((b.length - u) / s : Nat) : Int) := (Int.ofNat_tdiv _ _).symm
      have := Nat.div_le_self (b.length - u) s
      rw [e1]
      generalize (b.length - u) / s = q at *
      exact wrap64_eq (by omega) (by omega)
    have s0 : (s : Int) ≠ 0 := by omega
    by_cases hn : n < 0
    · simp (config := { maxSteps := 1000000 }) only [tabQ, gGetInt, unB_bytes, hb, fl, capB, hx, tup3, hn, Int.reduceBNe, lookF, reduceCtorEq, Nat.reduceEqDiff, Nat.reduceSub, Nat.reduceLT, Int.reduceNe, eq_self, frOf, ↓reduceIte, ↓binI, ↓evRes, Opd.ev, Sx.get, put, putO, del, dels, rd, retOf, canLW, canV, canC, belowL, apH, apH1, SV.ren, SV.renL, newOwn, targets, rms, Kind.isOwn, BB, ↓PB]
      exact ⟨[(0, 0)], rfl, by simp [compat, apartM, keysBelow, idHs, BB]⟩
    · by_cases hq : n > (((b.length - u) / s : Nat) : Int)
      · simp (config := { maxSteps := 1000000 }) only [tabQ, gGetInt, unB_bytes, hb, fl, capB, hx, tup3, hn, hq, w1, w2, Int.reduceBNe, lookF, reduceCtorEq, Nat.reduceEqDiff, Nat.reduceSub, Nat.reduceLT, Int.reduceNe, eq_self, frOf, ↓reduceIte, ↓binI, ↓evRes, Opd.ev, Sx.get, put, putO, del, dels, rd, retOf, canLW, canV, canC, belowL, apH, apH1, SV.ren, SV.renL, newOwn, targets, rms, Kind.isOwn, BB, ↓PB]
        exact ⟨s0, [(0, 0)], rfl, by simp [compat, apartM, keysBelow, idHs, BB]⟩
      · simp (config := { maxSteps := 1000000 }) only [tabQ, gGetInt, unB_bytes, hb, fl, capB, hx, tup3, hn, hq, w1, w2, Int.reduceBNe, lookF, reduceCtorEq, Nat.reduceEqDiff, Nat.reduceSub, Nat.reduceLT, Int.reduceNe, eq_self, frOf, ↓reduceIte, ↓binI, ↓evRes, Opd.ev, Sx.get, put, putO, del, dels, rd, retOf, canLW, canV, canC, belowL, apH, apH1, SV.ren, SV.renL, newOwn, targets, rms, Kind.isOwn, BB, ↓PB]
        exact ⟨s0, [(0, 0)], rfl, by simp [compat, apartM, keysBelow, idHs, BB]⟩
  · have he' : (e != 0) = true := by simpa using he
    simp (config := { maxSteps := 1000000 }) only [tabQ, gGetInt, unB_bytes, hb, fl, capB, hx, tup3, he', lookF, reduceCtorEq, Nat.reduceEqDiff, Nat.reduceSub, Nat.reduceLT, Int.reduceLT, eq_self, frOf, ↓reduceIte, ↓binI, ↓evRes, Opd.ev, Sx.get, put, putO, del, dels, rd, retOf, canLW, canV, canC, belowL, apH, apH1, SV.ren, SV.renL, newOwn, targets, rms, Kind.isOwn, BB, ↓PB]
    exact ⟨[(0, 0)], ⟨rfl, by simp [compat, apartM, keysBelow, idHs, BB]⟩, by rw [if_pos he]⟩
theorem f71 (b : List UInt8) (s : Nat) (hs : 1 ≤ s) (hs2 : s ≤ 1000) (hb : b.length ≤ 2 ^ 40) :
    Fun Tryd.prog tS 71 [.slc 0 0 1 b.length none, .int .i64 (s : Int)] [(0, ⟨.view, bys b⟩)] 1 (tup3 (cntR b s)) [] 1 := by
  refine fun_any none (callS tabQ cF) (callS_ok tabQ_ok cF_ok) chk71 (show 2 ≤ 37 by decide) (by decide) ?_
  unfold sf71 og om oq tup3 cntR cntE
  have fl := flat_bytes b
  rcases hx : decS b with ⟨n, u, e⟩
  simp only
  rcases dec_err hx with ⟨rfl, h1, h2, h3⟩ | ⟨he, rfl, rfl⟩
  · have w1 : IntKind.i64.wrap ((b.length : Int) - (u : Int)) = ((b.length - u : Nat) : Int) := by rw [wrap64_eq (by omega) (by omega)]; omega
    by_cases hn : n < 0
    · simp (config := { maxSteps := 1000000 }) only [tabQ, gGetIntR, unB_bytes, hb, fl, capB, hx, tup3, hn, ne_eq, Int.reduceEq, Int.reduceBNe, lookF, reduceCtorEq, Nat.reduceEqDiff, Nat.reduceSub, Nat.reduceLT, Int.reduceEq, eq_self, frOf, ↓reduceIte, ↓binI, ↓evRes, Opd.ev, Sx.get, put, putO, del, dels, rd, retOf, canLW, canV, canC, belowL, apH, apH1, SV.ren, SV.renL, newOwn, targets, rms, Kind.isOwn, BB, ↓PB]
      exact ⟨[(0, 0)], rfl, by simp [compat, apartM, keysBelow, idHs, BB]⟩
    · have hle := Nat.div_le_self (b.length - u) s
      have hdm : n ≤ (b.length : Int) → ((n * (s : Int) > ((b.length - u : Nat) : Int)) ↔ n > (((b.length - u) / s : Nat) : Int)) := by
        intro hnl
        obtain ⟨k, rfl⟩ : ∃ k : Nat, n = (k : Int) := ⟨n.toNat, by omega⟩
        have hk := Nat.div_lt_iff_lt_mul (x := b.length - u) (y := k) (k := s) (by omega)
        constructor
        · intro h
          have : (k * s : Nat) > b.length - u := by exact_mod_cast h
          have := hk.2 (by omega)
          omega
        · intro h
          have := hk.1 (by omega)
          have : (k * s : Nat) > b.length - u := by omega
          exact_mod_cast this
      by_cases hl : n > (b.length : Int)
      · have hq : n > (((b.length - u) / s : Nat) : Int) := by omega
        simp (config := { maxSteps := 1000000 }) only [tabQ, gGetIntR, unB_bytes, hb, fl, capB, hx, tup3, hn, hl, hq, ne_eq, Int.reduceEq, undef, Int.reduceBNe, lookF, setv, reduceCtorEq, Nat.reduceEqDiff, Nat.reduceSub, Nat.reduceLT, Int.reduceEq, eq_self, frOf, setv, ↓reduceIte, ↓binI, ↓evRes, Opd.ev, Sx.get, put, putO, del, dels, rd, retOf, canLW, canV, canC, belowL, apH, apH1, SV.ren, SV.renL, newOwn, targets, rms, Kind.isOwn, BB, ↓PB]
        exact ⟨[(0, 0)], rfl, by simp [compat, apartM, keysBelow, idHs, BB]⟩
      · have w2 : IntKind.i64.wrap (n * (s : Int)) = n * (s : Int) := by
          have h1 : 0 ≤ n * (s : Int) := Int.mul_nonneg (by omega) (by omega)
          have h2 : n * (s : Int) ≤ 1099511627776 * 1000 := Int.mul_le_mul (by omega) (by omega) (by omega) (by omega)
          exact wrap64_eq (by omega) (by omega)
        have hd := hdm (by omega)
        by_cases hq : n > (((b.length - u) / s : Nat) : Int)
        · have hq2 := hd.2 hq
          simp (config := { maxSteps := 1000000 }) only [tabQ, gGetIntR, unB_bytes, hb, fl, capB, hx, tup3, hn, hl, hq, hq2, w1, w2, ne_eq, Int.reduceEq, Int.reduceBNe, lookF, setv, reduceCtorEq, Nat.reduceEqDiff, Nat.reduceSub, Nat.reduceLT, Int.reduceEq, eq_self, frOf, setv, ↓reduceIte, ↓binI, ↓evRes, Opd.ev, Sx.get, put, putO, del, dels, rd, retOf, canLW, canV, canC, belowL, apH, apH1, SV.ren, SV.renL, newOwn, targets, rms, Kind.isOwn, BB, ↓PB]
          exact ⟨[(0, 0)], rfl, by simp [compat, apartM, keysBelow, idHs, BB]⟩
        · have hq2 : ¬ n * (s : Int) > ((b.length - u : Nat) : Int) := fun h => hq (hd.1 h)
          simp (config := { maxSteps := 1000000 }) only [tabQ, gGetIntR, unB_bytes, hb, fl, capB, hx, tup3, hn, hl, hq, hq2, w1, w2, ne_eq, Int.reduceBNe, lookF, setv, reduceCtorEq, Nat.reduceEqDiff, Nat.reduceSub, Nat.reduceLT, eq_self, frOf, setv, ↓reduceIte, ↓binI, ↓evRes, Opd.ev, Sx.get, put, putO, del, dels, rd, retOf, canLW, canV, canC, belowL, apH, apH1, SV.ren, SV.renL, newOwn, targets, rms, Kind.isOwn, BB, ↓PB]
          exact ⟨[(0, 0)], rfl, by simp [compat, apartM, keysBelow, idHs, BB]⟩
  · have he' : (e != 0) = true := by simpa using he
    have he2 : (e = 0) = False := by simpa using he
    simp (config := { maxSteps := 1000000 }) only [tabQ, gGetIntR, unB_bytes, hb, fl, capB, hx, tup3, he, he', ne_eq, lookF, reduceCtorEq, Nat.reduceEqDiff, Nat.reduceSub, Nat.reduceLT, eq_self, frOf, ↓reduceIte, ↓binI, ↓evRes, Opd.ev, Sx.get, put, putO, del, dels, rd, retOf, canLW, canV, canC, belowL, apH, apH1, SV.ren, SV.renL, newOwn, targets, rms, Kind.isOwn, BB, ↓PB]
    exact ⟨[(0, 0)], rfl, by simp [compat, apartM, keysBelow, idHs, BB]⟩
def gCnt (c : List UInt8 → Nat → Int × Nat × Int) : GS
  | [.slc 0 0 1 len none, .int .i64 z], [(0, ⟨.view, cells⟩)] => match unB cells with
    | some b => if len = b.length ∧ b.length ≤ 2 ^ 40 ∧ 1 ≤ z.toNat ∧ z.toNat ≤ 1000 ∧ z = (z.toNat : Int) then some (tup3 (c b z.toNat), [], 1) else none
    | none => none
  | _, _ => none
theorem gCnt_eq {c : List UInt8 → Nat → Int × Nat × Int} {b : List UInt8} {s : Nat} (hb : b.length ≤ 2 ^ 40) (h1 : 1 ≤ s) (h2 : s ≤ 1000) :
    gCnt c [.slc 0 0 1 b.length none, .int .i64 (s : Int)] [(0, ⟨.view, bys b⟩)] = some (tup3 (c b s), [], 1) := by
  unfold gCnt
  simp only [unB_bytes, Int.toNat_natCast, hb, h1, h2, and_self, if_true]
theorem gCnt_ok {f : FuncId} {c : List UInt8 → Nat → Int × Nat × Int} (h : ∀ (b : List UInt8) (s : Nat), 1 ≤ s → s ≤ 1000 → b.length ≤ 2 ^ 40 →
    Fun Tryd.prog tS f [.slc 0 0 1 b.length none, .int .i64 (s : Int)] [(0, ⟨.view, bys b⟩)] 1 (tup3 (c b s)) [] 1) : FunS Tryd.prog tS f (gCnt c) := by
  intro a0 m0 r m1 n1 hr
  unfold gCnt at hr
  split at hr
  · split at hr
    · rename_i b hb
      split at hr
      · rename_i hc
        obtain ⟨rfl, h1, h2, h3, h4⟩ := hc
        cases hr
        rw [unB_some hb, h4]
        exact ⟨h b _ h2 h3 h1, by simp [freshB]⟩
      · cases hr
    · cases hr
  · cases hr
end Go.Proofs.YtkfbkooobfepeaaDoor

/- Package wire and the reference: the reading of texts. -/
namespace Go.Proofs.YtkfbkooobfepeaaDoor
open Go Go.Sx Sf
set_option maxRecDepth 100000
set_option linter.unusedVariables false
variable {tS : List (Nat × List SV)}
theorem cnt_ok {b : List UInt8} {s : Nat} (h : cntE b s = 0) : ∃ n u : Nat, decS b = ((n : Int), u, 0) ∧ u ≤ b.length ∧ n ≤ (b.length - u) / s ∧ 0 < u := by
  rcases hx : decS b with ⟨n, u, e⟩
  unfold cntE at h
  rw [hx] at h
  simp only at h
  split at h
  · rename_i he; exact absurd h he
  · rename_i he
    have he : e = 0 := by simpa using he
    subst he
    rcases dec_err hx with ⟨_, h1, h2, h3⟩ | ⟨he, _⟩
    · split at h
      · simp at h
      · split at h
        · simp at h
        · exact ⟨n.toNat, u, by rw [show n = ((n.toNat : Nat) : Int) by omega]; simp, h2, by omega, h3⟩
    · exact absurd rfl he
def bytS (b : List UInt8) : List UInt8 × Nat × Int := if cntE b 1 ≠ 0 then ([], 0, cntE b 1) else ((b.drop (decS b).2.1).take (decS b).1.toNat, (decS b).2.1 + (decS b).1.toNat, 0)
def tupB (x : List UInt8 × Nat × Int) : SV := .tup [.str x.1, .int .i64 (x.2.1 : Int), .int .i64 x.2.2]
def tabR : List (FuncId × GS) := [(69, gCnt cntP), (71, gCnt cntR)]
theorem tabR_ok : ∀ x ∈ tabR, FunS Tryd.prog tS x.1 x.2 := by
  intro x hx
  simp only [tabR, List.mem_cons, List.not_mem_nil, or_false] at hx
  rcases hx with rfl | rfl
  · exact gCnt_ok f69
  · exact gCnt_ok f71
theorem drop_bys (b : List UInt8) (k : Nat) : List.drop k (bys b) = bys (b.drop k) := by simp [bys]
theorem takeB (b : List UInt8) (k : Nat) : List.take k (bys b) = bys (b.take k) := by simp [bys]
theorem f60 (b : List UInt8) (hb : b.length ≤ 2 ^ 40) :
    Fun Tryd.prog tS 60 [.slc 0 0 1 b.length none] [(0, ⟨.view, bys b⟩)] 1 (tupB (bytS b)) [] 1 := by
  refine fun_any none (callS tabR cF) (callS_ok tabR_ok cF_ok) chk60 (show 1 ≤ 27 by decide) (by decide) ?_
  unfold sf60 om oq tupB bytS
  have fl := flat_bytes b
  have g1 : gCnt cntP [.slc 0 0 1 b.length none, .int .i64 1] [(0, ⟨.view, bys b⟩)] = some (tup3 (cntP b 1), [], 1) := gCnt_eq (s := 1) hb (by decide) (by decide)
  by_cases he : cntE b 1 = 0
  · obtain ⟨n, u, hx, h1, h2, h3⟩ := cnt_ok he
    have hc : cntP b 1 = ((n : Int), u, 0) := by unfold cntP; rw [hx, he]
    rw [hc] at g1
    rw [Nat.div_one] at h2
    have w1 : IntKind.i64.wrap ((u : Int) + (n : Int)) = ((u + n : Nat) : Int) := by rw [wrap64_eq (by omega) (by omega)]; omega
    have k1 : (0 : Int) ≤ (u : Int) := by omega
    have k2 : (u : Int) ≤ ((u + n : Nat) : Int) := by omega
    have k3 : ((u + n : Nat) : Int) ≤ (b.length : Int) := by omega
    have k4 : u + n - u = n := by omega
    have k5 : u + n ≤ b.length := by omega
    have tk := takeB (b.drop u) n
    simp (config := { maxSteps := 1000000 }) only [tabR, ↓g1, fl, tup3, he, hx, w1, k1, k2, k3, k4, k5, drop_bys, tk, ne_eq, Int.reduceBNe, lookF, reduceCtorEq, Nat.reduceEqDiff, Nat.reduceSub, Nat.reduceLT, eq_self, frOf, ↓reduceIte, ↓binI, ↓evRes, Opd.ev, Sx.get, put, putO, del, dels, rd, retOf, canLW, canV, canC, belowL, apH, apH1, SV.ren, SV.renL, newOwn, targets, rms, Kind.isOwn, BB, ↓PB]
    exact ⟨all_isU8 _, [(0, 0)], ⟨rfl, by simp [compat, apartM, keysBelow, idHs, BB]⟩, by rw [map_byteOf]⟩
  · have he' : (cntE b 1 != 0) = true := by simpa using he
    have hc : ∃ n u, cntP b 1 = (n, u, cntE b 1) := ⟨_, _, rfl⟩
    obtain ⟨n, u, hc⟩ := hc
    rw [hc] at g1
    simp (config := { maxSteps := 1000000 }) only [tabR, ↓g1, fl, tup3, he, he', ne_eq, lookF, reduceCtorEq, Nat.reduceEqDiff, Nat.reduceSub, Nat.reduceLT, eq_self, frOf, ↓reduceIte, ↓binI, ↓evRes, Opd.ev, Sx.get, put, putO, del, dels, rd, retOf, canLW, canV, canC, belowL, apH, apH1, SV.ren, SV.renL, newOwn, targets, rms, Kind.isOwn, BB, ↓PB]
    exact ⟨[(0, 0)], rfl, by simp [compat, apartM, keysBelow, idHs, BB]⟩
theorem f49 (b : List UInt8) (hb : b.length ≤ 2 ^ 40) :
    Fun Tryd.prog tS 49 [.slc 0 0 1 b.length none] [(0, ⟨.view, bys b⟩)] 1 (tupB (bytS b)) [] 1 := by
  refine fun_any none (callS tabR cF) (callS_ok tabR_ok cF_ok) chk49 (show 1 ≤ 27 by decide) (by decide) ?_
  unfold sf49 om oq tupB bytS
  have fl := flat_bytes b
  have g1 : gCnt cntR [.slc 0 0 1 b.length none, .int .i64 1] [(0, ⟨.view, bys b⟩)] = some (tup3 (cntR b 1), [], 1) := gCnt_eq (s := 1) hb (by decide) (by decide)
  by_cases he : cntE b 1 = 0
  · obtain ⟨n, u, hx, h1, h2, h3⟩ := cnt_ok he
    have hc : cntR b 1 = ((n : Int), u, 0) := by unfold cntR; rw [hx, he]; rfl
    rw [hc] at g1
    rw [Nat.div_one] at h2
    have w1 : IntKind.i64.wrap ((u : Int) + (n : Int)) = ((u + n : Nat) : Int) := by rw [wrap64_eq (by omega) (by omega)]; omega
    have k1 : (0 : Int) ≤ (u : Int) := by omega
    have k2 : (u : Int) ≤ ((u + n : Nat) : Int) := by omega
    have k3 : ((u + n : Nat) : Int) ≤ (b.length : Int) := by omega
    have k4 : u + n - u = n := by omega
    have k5 : u + n ≤ b.length := by omega
    have tk := takeB (b.drop u) n
    simp (config := { maxSteps := 1000000 }) only [tabR, ↓g1, fl, tup3, he, hx, w1, k1, k2, k3, k4, k5, drop_bys, tk, ne_eq, Int.reduceBNe, lookF, reduceCtorEq, Nat.reduceEqDiff, Nat.reduceSub, Nat.reduceLT, eq_self, frOf, ↓reduceIte, ↓binI, ↓evRes, Opd.ev, Sx.get, put, putO, del, dels, rd, retOf, canLW, canV, canC, belowL, apH, apH1, SV.ren, SV.renL, newOwn, targets, rms, Kind.isOwn, BB, ↓PB]
    exact ⟨all_isU8 _, [(0, 0)], ⟨rfl, by simp [compat, apartM, keysBelow, idHs, BB]⟩, by rw [map_byteOf]⟩
  · have he' : (cntE b 1 != 0) = true := by simpa using he
    have hc : ∃ n u, cntR b 1 = (n, u, cntE b 1) := ⟨0, 0, by unfold cntR; rw [if_pos he]⟩
    obtain ⟨n, u, hc⟩ := hc
    rw [hc] at g1
    simp (config := { maxSteps := 1000000 }) only [tabR, ↓g1, fl, tup3, he, he', ne_eq, lookF, reduceCtorEq, Nat.reduceEqDiff, Nat.reduceSub, Nat.reduceLT, eq_self, frOf, ↓reduceIte, ↓binI, ↓evRes, Opd.ev, Sx.get, put, putO, del, dels, rd, retOf, canLW, canV, canC, belowL, apH, apH1, SV.ren, SV.renL, newOwn, targets, rms, Kind.isOwn, BB, ↓PB]
    exact ⟨[(0, 0)], rfl, by simp [compat, apartM, keysBelow, idHs, BB]⟩
def gGetBytes : GS
  | [.slc 0 0 1 len none], [(0, ⟨.view, cells⟩)] => match unB cells with
    | some b => if len = b.length ∧ b.length ≤ 2 ^ 40 then some (tupB (bytS b), [], 1) else none
    | none => none
  | _, _ => none
theorem gGetBytes_ok {f : FuncId} (h : ∀ b : List UInt8, b.length ≤ 2 ^ 40 → Fun Tryd.prog tS f [.slc 0 0 1 b.length none] [(0, ⟨.view, bys b⟩)] 1 (tupB (bytS b)) [] 1) : FunS Tryd.prog tS f gGetBytes := by
  intro a0 m0 r m1 n1 hr
  unfold gGetBytes at hr
  split at hr
  · split at hr
    · rename_i b hb
      split at hr
      · rename_i hc
        obtain ⟨rfl, h1⟩ := hc
        cases hr
        rw [unB_some hb]
        exact ⟨h b h1, by simp [freshB]⟩
      · cases hr
    · cases hr
  · cases hr
end Go.Proofs.YtkfbkooobfepeaaDoor

/- The digests of an encoding. -/
namespace Go.Proofs.YtkfbkooobfepeaaDoor
open Go Go.Sx Sf
set_option maxRecDepth 100000
set_option linter.unusedVariables false
variable {tS : List (Nat × List SV)}
def dgsN (b : List UInt8) : Nat := if cntE b 16 ≠ 0 then 0 else (decS b).1.toNat
def dgsU (b : List UInt8) : Nat := if cntE b 16 ≠ 0 then 0 else (decS b).2.1 + 16 * (decS b).1.toNat
def dgsX (b : List UInt8) : List UInt8 := if cntE b 16 ≠ 0 then [] else (b.drop (decS b).2.1).take (16 * (decS b).1.toNat)
def dgsR (b : List UInt8) : SV := .tup [nlS 1 16 (dgsN b), .int .i64 (dgsU b : Int), .int .i64 (cntE b 16)]
theorem dgX_step {b : List UInt8} {u i : Nat} : (b.drop u).take (16 * i) ++ (b.drop (u + 16 * i)).take 16 = (b.drop u).take (16 * (i + 1)) := by
  rw [show 16 * (i + 1) = 16 * i + 16 by omega, List.take_add, List.drop_drop]
set_option maxHeartbeats 4000000 in
theorem f61 (b : List UInt8) (hb : b.length ≤ 2 ^ 36) : Fun Tryd.prog tS 61 [.slc 0 0 1 b.length none] [(0, ⟨.view, bys b⟩)] 1
    (dgsR b) (nlM 1 36 (bys (dgsX b)) [] (dgsN b)) (nlN 1 (dgsN b)) := by
  refine fun_any none (callS tabR cF) (callS_ok tabR_ok cF_ok) chk61 (show 1 ≤ 36 by decide) (by cases dgsN b <;> simp [nlN]) ?_
  unfold sf61 om oq
  have hb40 : b.length ≤ 2 ^ 40 := by omega
  have fl := flat_bytes b
  have tb := take_bytes b
  have g1 : gCnt cntP [.slc 0 0 1 b.length none, .int .i64 16] [(0, ⟨.view, bys b⟩)] = some (tup3 (cntP b 16), [], 1) := gCnt_eq (s := 16) hb40 (by decide) (by decide)
  by_cases he : cntE b 16 = 0
  · obtain ⟨n, u, hx, h1, h2, h3⟩ := cnt_ok he
    have hN : dgsN b = n := by unfold dgsN; rw [he, hx]; simp
    have hU : dgsU b = u + 16 * n := by unfold dgsU; rw [he, hx]; simp
    have hX : dgsX b = (b.drop u).take (16 * n) := by unfold dgsX; rw [he, hx]; simp
    have hc : cntP b 16 = ((n : Int), u, 0) := by unfold cntP; rw [hx, he]
    have h4 : 16 * n ≤ b.length - u := by have := Nat.mul_le_mul_left 16 h2; have := Nat.mul_div_le (b.length - u) 16; omega
    rw [hc] at g1
    unfold dgsR
    rw [hN, hU, hX, he]
    simp (config := { maxSteps := 1000000 }) only [tabR, ↓g1, fl, tb, tup3, Int.reduceBNe, lookF, reduceCtorEq, Nat.reduceEqDiff, Nat.reduceSub, Nat.reduceLT, eq_self, frOf, ↓reduceIte, ↓binI, Opd.ev, Sx.get, put, putO, del, dels, rd, canLW, canV, canC, belowL, apH, apH1, SV.ren, SV.renL, newOwn, targets, rms, Kind.isOwn, BB, ↓PB]
    rw [den_loop]
    have rB : ∀ η, SV.renL η (bys b) = bys b := fun η => ren_bytes η b
    refine den_inv (callS_ok tabR_ok cF_ok) (σ := Nat) (fun i => [(19, .int .i64 (i : Int)), (18, .int .i64 (n : Int)), (8, nlS 1 16 i), (6, .int .i64 ((u + 16 * i : Nat) : Int)), (0, .slc 0 0 1 b.length none)])
      (fun i => nlM 1 36 (bys ((b.drop u).take (16 * i))) [(0, ⟨.view, bys b⟩)] i) (fun i => nlN 1 i) (fun i => i ≤ n) (fun i => n - i) 0 ?_ (Nat.zero_le _) ?_
    · exact ⟨[(0, 0)], by simp only [Nat.mul_zero, rB, EntM, compat, apartM, keysBelow, eta, idHs, rd, Nat.reduceSub, Nat.reduceLT, ↓reduceIte, Kind.isOwn, exists_eq_left', ne_eq, implies_true, false_imp_iff, BB], by simp [frEnt, geto, eta, SV.ren, Nat.reduceEqDiff, ↓reduceIte, reduceCtorEq, BB]⟩
    · intro i hi
      by_cases hin : i < n
      · have c1 : (i : Int) < (n : Int) := by omega
        have v4 : IntKind.i64.wrap ((i : Int) + 1) = ((i + 1 : Nat) : Int) := by rw [wrap64_eq (by omega) (by omega)]; omega
        have w1 : IntKind.i64.wrap (((u + 16 * i : Nat) : Int) + 16) = ((u + 16 * (i + 1) : Nat) : Int) := by rw [wrap64_eq (by omega) (by omega)]; omega
        have b1 : (0 : Int) ≤ ((u + 16 * i : Nat) : Int) := by omega
        have b2 : ((u + 16 * i : Nat) : Int) ≤ ((u + 16 * (i + 1) : Nat) : Int) := by omega
        have b3 : u + 16 * (i + 1) ≤ b.length := by omega
        have b4 : u + 16 * (i + 1) - (u + 16 * i) = 16 := by omega
        have hD : ((b.drop (u + 16 * i)).take 16).length = 16 := by simp; omega
        have tD : List.take 16 (List.drop (u + 16 * i) (bys b)) = bys ((b.drop (u + 16 * i)).take 16) := by simp [bys, List.map_take, List.map_drop]
        have hst := dgX_step (b := b) (u := u) (i := i)
        have lX : ((b.drop u).take (16 * i)).length = 16 * i := by simp; omega
        have lX1 : ((b.drop u).take (16 * (i + 1))).length = 16 * (i + 1) := by simp; omega
        generalize hDe : (b.drop (u + 16 * i)).take 16 = D at *
        have lD : (bys D).length = 16 := by rw [len_bytes, hD]
        have ttD : List.take 16 (bys D) = bys D := List.take_of_length_le (by omega)
        have ap : bys ((b.drop u).take (16 * i)) ++ bys D = bys ((b.drop u).take (16 * (i + 1))) := by rw [bytes_app, hst]
        have tX : List.take (i * 16) (bys ((b.drop u).take (16 * i))) = bys ((b.drop u).take (16 * i)) := List.take_of_length_le (by rw [len_bytes, lX]; omega)
        rcases Nat.eq_zero_or_pos i with h0 | h0
        · have ap0 : bys D = bys ((b.drop u).take (16 * (i + 1))) := by rw [← hst, h0]; simp
          rw [nlS_z h0, nlM_z h0, nlN_z h0]
          have b5 : u + 16 * i < b.length := by omega
          simp (config := { maxSteps := 1000000 }) only [c1, v4, w1, b1, b2, b4, tD, lD, ttD, reduceCtorEq, Nat.reduceEqDiff, Nat.reduceAdd, Nat.reduceMul, Nat.reduceLT, eq_self, ↓reduceIte, ↓binI, ↓fillE, Opd.ev, Sx.get, put, putO, del, dels, rd, splice, SV.cells?, BB, ↓PB]
          refine ⟨by omega, b5, by omega, by omega, by omega, i + 1, ?_, by omega, by omega⟩
          rw [nlS_p (Nat.succ_pos i), nlM_p (Nat.succ_pos i), nlN_p (Nat.succ_pos i), ← ap0]
          exact ⟨[(0, 0), (2, 0)], by simp [rB, EntM, compat, apartM, keysBelow, eta, idHs, rd, Nat.reduceAdd, Nat.reduceLeDiff, ↓reduceIte, Kind.isOwn, exists_eq_left', ne_eq, implies_true, forall_const, reduceCtorEq, forall_eq, BB], by simp [h0, frEnt, geto, eta, SV.ren, Nat.reduceAdd, Nat.reduceEqDiff, Nat.reduceLeDiff, ↓reduceIte, reduceCtorEq, BB]⟩
        · rw [nlS_p h0, nlM_p h0, nlN_p h0]
          simp (config := { maxSteps := 1000000 }) only [c1, v4, w1, b1, b2, b4, tD, lD, ttD, tX, lX, ap, reduceCtorEq, Nat.reduceEqDiff, Nat.reduceAdd, Nat.reduceMul, Nat.reduceLT, eq_self, ↓reduceIte, ↓binI, ↓fillE, Opd.ev, Sx.get, put, putO, del, dels, rd, rm, splice, SV.cells?, BB, ↓PB]
          refine ⟨by omega, by omega, by omega, by omega, by omega, by omega, i + 1, ?_, by omega, by omega⟩
          rw [nlS_p (Nat.succ_pos i), nlM_p (Nat.succ_pos i), nlN_p (Nat.succ_pos i)]
          exact ⟨[(0, 0), (3, 0)], by simp [rB, EntM, compat, apartM, keysBelow, eta, idHs, rd, Nat.reduceAdd, Nat.reduceLeDiff, ↓reduceIte, Kind.isOwn, exists_eq_left', ne_eq, implies_true, forall_const, reduceCtorEq, forall_eq, BB], by simp [frEnt, geto, eta, SV.ren, Nat.reduceAdd, Nat.reduceEqDiff, Nat.reduceLeDiff, ↓reduceIte, reduceCtorEq, BB]⟩
      · obtain rfl : i = n := by omega
        have c3 : decide ((i : Int) < (i : Int)) = false := by simp
        rcases Nat.eq_zero_or_pos i with h0 | h0
        · simp only [nlS_z h0, nlM_z h0, nlN_z h0]
          simp (config := { maxSteps := 1000000 }) only [c3, reduceCtorEq, Nat.reduceEqDiff, eq_self, ↓reduceIte, ↓binI, ↓evRes, Opd.ev, Sx.get, put, putO, del, dels, retOf, SV.ren, SV.renL, BB, ↓PB]
          exact ⟨[(0, 0)], by simp [List.length_cons, List.length_nil, Nat.zero_add], by simp [compat, apartM, keysBelow, idHs, BB]⟩
        · simp only [nlS_p h0, nlM_p h0, nlN_p h0]
          simp (config := { maxSteps := 1000000 }) only [c3, reduceCtorEq, Nat.reduceEqDiff, Nat.reduceAdd, eq_self, ↓reduceIte, ↓binI, ↓evRes, Opd.ev, Sx.get, put, putO, del, dels, retOf, eta, SV.ren, SV.renL, BB, ↓PB]
          exact ⟨[(0, 0), (1, 0)], by simp [EntM, compat, apartM, keysBelow, eta, idHs, rd, Nat.reduceAdd, Nat.reduceLeDiff, ↓reduceIte, Kind.isOwn, exists_eq_left', ne_eq, implies_true, forall_const, BB], by simp [Nat.reduceAdd, Nat.reduceLeDiff, BB]⟩
  · have hN : dgsN b = 0 := by unfold dgsN; rw [if_pos he]
    have hU : dgsU b = 0 := by unfold dgsU; rw [if_pos he]
    have hX : dgsX b = [] := by unfold dgsX; rw [if_pos he]
    have he2 : (cntE b 16 != 0) = true := by simpa using he
    unfold dgsR
    rw [hN, hU, hX]
    have hc : cntP b 16 = ((decS b).1, (decS b).2.1, cntE b 16) := rfl
    rw [hc] at g1
    simp (config := { maxSteps := 1000000 }) only [tabR, ↓g1, fl, tb, tup3, he2, lookF, reduceCtorEq, Nat.reduceEqDiff, Nat.reduceSub, Nat.reduceLT, eq_self, frOf, ↓reduceIte, ↓binI, ↓evRes, Opd.ev, Sx.get, put, putO, del, dels, rd, retOf, canLW, canV, canC, belowL, apH, apH1, SV.ren, SV.renL, newOwn, targets, rms, Kind.isOwn, BB, ↓PB]
    exact ⟨[(0, 0)], by simp [List.length_cons, List.length_nil, Nat.zero_add], by simp [compat, apartM, keysBelow, idHs, BB]⟩
theorem cpC_len'' {X : List UInt8} {i : Nat} (hX : 16 ≤ X.length) (h : i ≤ 16) : (cpC X i).length = 16 := by simp [cpC, len_bytes]; omega
set_option maxHeartbeats 8000000 in
theorem f65 (b : List UInt8) (hb : b.length ≤ 2 ^ 36) : Fun Tryd.prog tS 65 [.slc 0 0 1 b.length none] [(0, ⟨.view, bys b⟩)] 1
    (dgsR b) (nlM 1 36 (bys (dgsX b)) [] (dgsN b)) (nlN 1 (dgsN b)) := by
  refine fun_any none (callS tabR cF) (callS_ok tabR_ok cF_ok) chk65 (show 1 ≤ 46 by decide) (by cases dgsN b <;> simp [nlN]) ?_
  unfold sf65 om oq ov
  have hb40 : b.length ≤ 2 ^ 40 := by omega
  have fl := flat_bytes b
  have tb := take_bytes b
  have g1 : gCnt cntR [.slc 0 0 1 b.length none, .int .i64 16] [(0, ⟨.view, bys b⟩)] = some (tup3 (cntR b 16), [], 1) := gCnt_eq (s := 16) hb40 (by decide) (by decide)
  by_cases he : cntE b 16 = 0
  · obtain ⟨n, u, hx, h1, h2, h3⟩ := cnt_ok he
    have hN : dgsN b = n := by unfold dgsN; rw [he, hx]; simp
    have hU : dgsU b = u + 16 * n := by unfold dgsU; rw [he, hx]; simp
    have hX : dgsX b = (b.drop u).take (16 * n) := by unfold dgsX; rw [he, hx]; simp
    have hc : cntR b 16 = ((n : Int), u, 0) := by unfold cntR; rw [hx, he]; simp
    have h4 : 16 * n ≤ b.length - u := by have := Nat.mul_le_mul_left 16 h2; have := Nat.mul_div_le (b.length - u) 16; omega
    rw [hc] at g1
    unfold dgsR
    rw [hN, hU, hX, he]
    simp (config := { maxSteps := 1000000 }) only [tabR, ↓g1, fl, tb, tup3, Int.reduceBNe, lookF, reduceCtorEq, Nat.reduceEqDiff, Nat.reduceSub, Nat.reduceLT, eq_self, frOf, ↓reduceIte, ↓binI, Opd.ev, Sx.get, put, putO, del, dels, rd, canLW, canV, canC, belowL, apH, apH1, SV.ren, SV.renL, newOwn, targets, rms, Kind.isOwn, BB, ↓PB]
    rw [den_loop]
    have rB : ∀ η, SV.renL η (bys b) = bys b := fun η => ren_bytes η b
    have rC : ∀ η X i, SV.renL η (cpC X i) = cpC X i := fun η X i => cpC_ren η X i
    refine den_inv (callS_ok tabR_ok cF_ok) (σ := Nat) (fun i => [(9, .int .i64 (i : Int)), (8, nlS 1 16 i), (6, .int .i64 ((u + 16 * i : Nat) : Int)), (5, .int .i64 (n : Int)), (0, .slc 0 0 1 b.length none)])
      (fun i => nlM 1 36 (bys ((b.drop u).take (16 * i))) [(0, ⟨.view, bys b⟩)] i) (fun i => nlN 1 i) (fun i => i ≤ n) (fun i => n - i) 0 ?_ (Nat.zero_le _) ?_
    · exact ⟨[(0, 0)], by simp only [Nat.mul_zero, rB, EntM, compat, apartM, keysBelow, eta, idHs, rd, Nat.reduceSub, Nat.reduceLT, ↓reduceIte, Kind.isOwn, exists_eq_left', ne_eq, implies_true, false_imp_iff, BB], by simp [frEnt, geto, eta, SV.ren, Nat.reduceEqDiff, ↓reduceIte, reduceCtorEq, BB]⟩
    · intro i hi
      by_cases hin : i < n
      · have c1 : (i : Int) < (n : Int) := by omega
        have v4 : IntKind.i64.wrap ((i : Int) + 1) = ((i + 1 : Nat) : Int) := by rw [wrap64_eq (by omega) (by omega)]; omega
        have w1 : IntKind.i64.wrap (((u + 16 * i : Nat) : Int) + 16) = ((u + 16 * (i + 1) : Nat) : Int) := by rw [wrap64_eq (by omega) (by omega)]; omega
        have hDl : 16 ≤ (b.drop (u + 16 * i)).length := by simp; omega
        have hD : ((b.drop (u + 16 * i)).take 16).length = 16 := by simp; omega
        have hst := dgX_step (b := b) (u := u) (i := i)
        have lX : ((b.drop u).take (16 * i)).length = 16 * i := by simp; omega
        generalize hDe : (b.drop (u + 16 * i)).take 16 = D at *
        have lD : (bys D).length = 16 := by rw [len_bytes, hD]
        have ttD : List.take 16 (bys D) = bys D := List.take_of_length_le (by omega)
        have ap : bys ((b.drop u).take (16 * i)) ++ bys D = bys ((b.drop u).take (16 * (i + 1))) := by rw [bytes_app, hst]
        have tX : List.take (i * 16) (bys ((b.drop u).take (16 * i))) = bys ((b.drop u).take (16 * i)) := List.take_of_length_le (by rw [len_bytes, lX]; omega)
        rcases Nat.eq_zero_or_pos i with h0 | h0
        · have ap0 : bys D = bys ((b.drop u).take (16 * (i + 1))) := by rw [← hst, h0]; simp
          simp only [nlS_z h0, nlM_z h0, nlN_z h0]
          simp (config := { maxSteps := 1000000 }) only [c1, reduceCtorEq, Nat.reduceEqDiff, Nat.reduceAdd, eq_self, ↓reduceIte, ↓binI, Opd.ev, Sx.get, put, putO, del, dels, BB, ↓PB]
          rw [den_loop]
          refine den_inv (callS_ok tabR_ok cF_ok) (σ := Nat) (fun j => [(11, .int .i64 (j : Int)), (10, .ptr 1 0), (9, .int .i64 (i : Int)), (8, .val (.slice none 0 0)), (6, .int .i64 ((u + 16 * i : Nat) : Int)), (5, .int .i64 (n : Int)), (0, .slc 0 0 1 b.length none)])
            (fun j => [(1, ⟨.own 36, cpC (b.drop (u + 16 * i)) j⟩), (0, ⟨.view, bys b⟩)]) (fun _ => 2) (fun j => j ≤ 16) (fun j => 16 - j) 0 ?_ (Nat.zero_le _) ?_
          · exact ⟨[(0, 0), (1, 0)], by simp only [rB, rC, EntM, compat, apartM, keysBelow, eta, idHs, rd, Nat.reduceAdd, Nat.reduceSub, Nat.reduceLT, Nat.reduceLeDiff, ↓reduceIte, Kind.isOwn, exists_eq_left', ne_eq, implies_true, false_imp_iff, forall_const, forall_eq, BB] <;> rfl, by simp [frEnt, geto, eta, SV.ren, Nat.reduceAdd, Nat.reduceEqDiff, Nat.reduceLeDiff, ↓reduceIte, reduceCtorEq, BB]⟩
          · intro j hj
            have lC := cpC_len'' (X := b.drop (u + 16 * i)) hDl hj
            by_cases h16 : j < 16
            · obtain ⟨x, hx⟩ : ∃ x, b[u + 16 * i + j]? = some x := ⟨b[u + 16 * i + j]'(by omega), by rw [List.getElem?_eq_getElem]⟩
              have gx := get_bysI hx
              have hx' : (b.drop (u + 16 * i))[j]? = some x := by rw [List.getElem?_drop]; exact hx
              have d1 : (j : Int) < 16 := by omega
              have d2 : (0 : Int) ≤ (j : Int) := by omega
              have d4 : IntKind.i64.wrap ((j : Int) + 1) = ((j + 1 : Nat) : Int) := by rw [wrap64_eq (by omega) (by omega)]; omega
              have d5 : IntKind.i64.wrap (((u + 16 * i : Nat) : Int) + (j : Int)) = ((u + 16 * i + j : Nat) : Int) := by rw [wrap64_eq (by omega) (by omega)]; omega
              have d6 : (0 : Int) ≤ ((u + 16 * i + j : Nat) : Int) := by omega
              have d7 : ((u + 16 * i + j : Nat) : Int) < (b.length : Int) := by omega
              have op := cpC_put hx' h16
              simp (config := { maxSteps := 1000000 }) only [d1, d2, d4, d5, d6, d7, gx, lC, op, reduceCtorEq, Nat.reduceEqDiff, Nat.reduceLeDiff, eq_self, ↓reduceIte, ↓binI, Opd.ev, Sx.get, put, putO, del, dels, rd, upd, SV.cells?, SV.one, BB, ↓PB]
              exact ⟨by omega, by omega, j + 1, ⟨[(0, 0), (1, 0)], by simp only [rB, rC, EntM, compat, apartM, keysBelow, eta, idHs, rd, Nat.reduceAdd, Nat.reduceSub, Nat.reduceLT, Nat.reduceLeDiff, ↓reduceIte, Kind.isOwn, exists_eq_left', ne_eq, implies_true, false_imp_iff, forall_const, forall_eq, BB], by simp [frEnt, geto, eta, SV.ren, Nat.reduceAdd, Nat.reduceEqDiff, Nat.reduceLeDiff, ↓reduceIte, reduceCtorEq, BB]⟩, by omega, by omega⟩
            · obtain rfl : j = 16 := by omega
              have tC : List.take 16 (cpC (b.drop (u + 16 * i)) 16) = bys D := by rw [List.take_of_length_le (by omega), cpC_all, hDe]
              simp (config := { maxSteps := 1000000 }) only [v4, w1, tC, lC, lD, ttD, reduceCtorEq, Nat.reduceEqDiff, Nat.reduceAdd, Nat.reduceMul, Int.reduceLT, eq_self, ↓reduceIte, ↓binI, ↓fillE, Opd.ev, Sx.get, put, putO, del, dels, rd, splice, SV.cells?, BB, ↓PB]
              refine ⟨by omega, by omega, i + 1, ?_, by omega, by omega⟩
              rw [nlS_p (Nat.succ_pos i), nlM_p (Nat.succ_pos i), nlN_p (Nat.succ_pos i), ← ap0]
              exact ⟨[(0, 0), (3, 0)], by simp [rB, EntM, compat, apartM, keysBelow, eta, idHs, rd, Nat.reduceAdd, Nat.reduceLeDiff, ↓reduceIte, Kind.isOwn, exists_eq_left', ne_eq, implies_true, forall_const, reduceCtorEq, forall_eq, BB], by simp [h0, frEnt, geto, eta, SV.ren, Nat.reduceAdd, Nat.reduceEqDiff, Nat.reduceLeDiff, ↓reduceIte, reduceCtorEq, BB]⟩
        · skip
          simp only [nlS_p h0, nlM_p h0, nlN_p h0]
          simp (config := { maxSteps := 1000000 }) only [c1, reduceCtorEq, Nat.reduceEqDiff, Nat.reduceAdd, eq_self, ↓reduceIte, ↓binI, Opd.ev, Sx.get, put, putO, del, dels, BB, ↓PB]
          rw [den_loop]
          refine den_inv (callS_ok tabR_ok cF_ok) (σ := Nat) (fun j => [(11, .int .i64 (j : Int)), (10, .ptr 2 0), (9, .int .i64 (i : Int)), (8, .slc 1 0 16 i none), (6, .int .i64 ((u + 16 * i : Nat) : Int)), (5, .int .i64 (n : Int)), (0, .slc 0 0 1 b.length none)])
            (fun j => [(2, ⟨.own 36, cpC (b.drop (u + 16 * i)) j⟩), (1, ⟨.own 36, bys ((b.drop u).take (16 * i))⟩), (0, ⟨.view, bys b⟩)]) (fun _ => 3) (fun j => j ≤ 16) (fun j => 16 - j) 0 ?_ (Nat.zero_le _) ?_
          · exact ⟨[(0, 0), (1, 0), (2, 0)], by simp only [rB, rC, EntM, compat, apartM, keysBelow, eta, idHs, rd, Nat.reduceAdd, Nat.reduceSub, Nat.reduceLT, Nat.reduceLeDiff, ↓reduceIte, Kind.isOwn, exists_eq_left', ne_eq, implies_true, false_imp_iff, forall_const, reduceCtorEq, forall_eq_or_imp, forall_eq, BB] <;> rfl, by simp [frEnt, geto, eta, SV.ren, Nat.reduceAdd, Nat.reduceEqDiff, Nat.reduceLT, Nat.reduceLeDiff, ↓reduceIte, reduceCtorEq, BB]⟩
          · intro j hj
            have lC := cpC_len'' (X := b.drop (u + 16 * i)) hDl hj
            by_cases h16 : j < 16
            · obtain ⟨x, hx⟩ : ∃ x, b[u + 16 * i + j]? = some x := ⟨b[u + 16 * i + j]'(by omega), by rw [List.getElem?_eq_getElem]⟩
              have gx := get_bysI hx
              have hx' : (b.drop (u + 16 * i))[j]? = some x := by rw [List.getElem?_drop]; exact hx
              have d1 : (j : Int) < 16 := by omega
              have d2 : (0 : Int) ≤ (j : Int) := by omega
              have d4 : IntKind.i64.wrap ((j : Int) + 1) = ((j + 1 : Nat) : Int) := by rw [wrap64_eq (by omega) (by omega)]; omega
              have d5 : IntKind.i64.wrap (((u + 16 * i : Nat) : Int) + (j : Int)) = ((u + 16 * i + j : Nat) : Int) := by rw [wrap64_eq (by omega) (by omega)]; omega
              have d6 : (0 : Int) ≤ ((u + 16 * i + j : Nat) : Int) := by omega
              have d7 : ((u + 16 * i + j : Nat) : Int) < (b.length : Int) := by omega
              have op := cpC_put hx' h16
              simp (config := { maxSteps := 1000000 }) only [d1, d2, d4, d5, d6, d7, gx, lC, op, reduceCtorEq, Nat.reduceEqDiff, Nat.reduceLeDiff, eq_self, ↓reduceIte, ↓binI, Opd.ev, Sx.get, put, putO, del, dels, rd, upd, SV.cells?, SV.one, BB, ↓PB]
              exact ⟨by omega, by omega, j + 1, ⟨[(0, 0), (1, 0), (2, 0)], by simp only [rB, rC, EntM, compat, apartM, keysBelow, eta, idHs, rd, Nat.reduceAdd, Nat.reduceSub, Nat.reduceLT, Nat.reduceLeDiff, ↓reduceIte, Kind.isOwn, exists_eq_left', ne_eq, implies_true, false_imp_iff, forall_const, reduceCtorEq, forall_eq_or_imp, forall_eq, BB], by simp [frEnt, geto, eta, SV.ren, Nat.reduceAdd, Nat.reduceEqDiff, Nat.reduceLT, Nat.reduceLeDiff, ↓reduceIte, reduceCtorEq, BB]⟩, by omega, by omega⟩
            · obtain rfl : j = 16 := by omega
              have tC : List.take 16 (cpC (b.drop (u + 16 * i)) 16) = bys D := by rw [List.take_of_length_le (by omega), cpC_all, hDe]
              simp (config := { maxSteps := 1000000 }) only [v4, w1, tC, lC, lD, ttD, tX, lX, ap, reduceCtorEq, Nat.reduceEqDiff, Nat.reduceAdd, Nat.reduceMul, Int.reduceLT, eq_self, ↓reduceIte, ↓binI, ↓fillE, Opd.ev, Sx.get, put, putO, del, dels, rd, rm, splice, SV.cells?, BB, ↓PB]
              refine ⟨by omega, by omega, by omega, i + 1, ?_, by omega, by omega⟩
              rw [nlS_p (Nat.succ_pos i), nlM_p (Nat.succ_pos i), nlN_p (Nat.succ_pos i)]
              exact ⟨[(0, 0), (4, 0)], by simp [rB, EntM, compat, apartM, keysBelow, eta, idHs, rd, Nat.reduceAdd, Nat.reduceLeDiff, ↓reduceIte, Kind.isOwn, exists_eq_left', ne_eq, implies_true, forall_const, reduceCtorEq, forall_eq, BB], by simp [frEnt, geto, eta, SV.ren, Nat.reduceAdd, Nat.reduceEqDiff, Nat.reduceLeDiff, ↓reduceIte, reduceCtorEq, BB]⟩
      · obtain rfl : i = n := by omega
        have c3 : decide ((i : Int) < (i : Int)) = false := by simp
        rcases Nat.eq_zero_or_pos i with h0 | h0
        · simp only [nlS_z h0, nlM_z h0, nlN_z h0]
          simp (config := { maxSteps := 1000000 }) only [c3, reduceCtorEq, Nat.reduceEqDiff, eq_self, ↓reduceIte, ↓binI, ↓evRes, Opd.ev, Sx.get, put, putO, del, dels, retOf, SV.ren, SV.renL, BB, ↓PB]
          exact ⟨[(0, 0)], by simp [List.length_cons, List.length_nil, Nat.zero_add], by simp [compat, apartM, keysBelow, idHs, BB]⟩
        · simp only [nlS_p h0, nlM_p h0, nlN_p h0]
          simp (config := { maxSteps := 1000000 }) only [c3, reduceCtorEq, Nat.reduceEqDiff, Nat.reduceAdd, eq_self, ↓reduceIte, ↓binI, ↓evRes, Opd.ev, Sx.get, put, putO, del, dels, retOf, eta, SV.ren, SV.renL, BB, ↓PB]
          exact ⟨[(0, 0), (1, 0)], by simp [EntM, compat, apartM, keysBelow, eta, idHs, rd, Nat.reduceAdd, Nat.reduceLeDiff, ↓reduceIte, Kind.isOwn, exists_eq_left', ne_eq, implies_true, forall_const, BB], by simp [Nat.reduceAdd, Nat.reduceLeDiff, BB]⟩
  · have hN : dgsN b = 0 := by unfold dgsN; rw [if_pos he]
    have hU : dgsU b = 0 := by unfold dgsU; rw [if_pos he]
    have hX : dgsX b = [] := by unfold dgsX; rw [if_pos he]
    have he2 : (cntE b 16 != 0) = true := by simpa using he
    unfold dgsR
    rw [hN, hU, hX]
    have hc : cntR b 16 = (0, 0, cntE b 16) := by unfold cntR; rw [if_pos he]
    rw [hc] at g1
    simp (config := { maxSteps := 1000000 }) only [tabR, ↓g1, fl, tb, tup3, he2, lookF, reduceCtorEq, Nat.reduceEqDiff, Nat.reduceSub, Nat.reduceLT, eq_self, frOf, ↓reduceIte, ↓binI, ↓evRes, Opd.ev, Sx.get, put, putO, del, dels, rd, retOf, canLW, canV, canC, belowL, apH, apH1, SV.ren, SV.renL, newOwn, targets, rms, Kind.isOwn, BB, ↓PB]
    exact ⟨[(0, 0)], by simp [List.length_cons, List.length_nil, Nat.zero_add], by simp [compat, apartM, keysBelow, idHs, BB]⟩
def gDgs : GS
  | [.slc 0 0 1 len none], [(0, ⟨.view, cells⟩)] => match unB cells with
    | some b => if len = b.length ∧ b.length ≤ 2 ^ 36 then some (dgsR b, nlM 1 36 (bys (dgsX b)) [] (dgsN b), nlN 1 (dgsN b)) else none
    | none => none
  | _, _ => none
theorem gDgs_eq {b : List UInt8} (h : b.length ≤ 2 ^ 36) : gDgs [.slc 0 0 1 b.length none] [(0, ⟨.view, bys b⟩)] = some (dgsR b, nlM 1 36 (bys (dgsX b)) [] (dgsN b), nlN 1 (dgsN b)) := by
  unfold gDgs
  simp only [unB_bytes]
  rw [if_pos ⟨trivial, h⟩]
theorem gDgs_of {f : FuncId} (H : ∀ b : List UInt8, b.length ≤ 2 ^ 36 → Fun Tryd.prog tS f [.slc 0 0 1 b.length none] [(0, ⟨.view, bys b⟩)] 1 (dgsR b) (nlM 1 36 (bys (dgsX b)) [] (dgsN b)) (nlN 1 (dgsN b))) : FunS Tryd.prog tS f gDgs := by
  intro a0 m0 r m1 n1 h
  unfold gDgs at h
  split at h
  · split at h
    · rename_i b hb
      split at h
      · rename_i hc
        cases h
        obtain ⟨rfl, h2⟩ := hc
        rw [unB_some hb]
        refine ⟨H b h2, ?_⟩
        rcases Nat.eq_zero_or_pos (dgsN b) with h0 | h0
        · rw [nlM_z h0]; simp [freshB]
        · rw [nlM_p h0]; simp [freshB]
      · cases h
    · cases h
  · cases h
theorem gDgs61 : FunS Tryd.prog tS 61 gDgs := gDgs_of f61
theorem gDgs65 : FunS Tryd.prog tS 65 gDgs := gDgs_of f65
end Go.Proofs.YtkfbkooobfepeaaDoor

/- The check of a signature of a tree: contracts of Verify and of the digest. -/
namespace Go.Proofs.YtkfbkooobfepeaaDoor
open Go Go.Sx Sf
set_option maxRecDepth 100000
set_option linter.unusedSimpArgs false
set_option linter.unusedVariables false
def gVer : GS
  | [.agg pc, .int .i64 N, .int .i64 i, .agg dc, .slc 0 0 16 h none], [(0, ⟨.view, xc⟩)] => match unB pc, unB dc, unB xc with
    | some p, some d, some X => if p.length = 16 ∧ d.length = 16 ∧ X.length = 16 * h ∧ h ≤ 6 ∧ 0 < h ∧ N = P2 h ∧ 0 ≤ i ∧ i.toNat < 2 ^ h then
        some (.bool (shS (inK i.toNat d X h) == p), [], 1) else none
    | _, _, _ => none
  | [.agg pc, .int .i64 N, .int .i64 i, .agg dc, .val (.slice none 0 0)], [] => match unB pc, unB dc with
    | some p, some d => if p.length = 16 ∧ d.length = 16 ∧ N = P2 0 ∧ i = 0 then some (.bool (shS (ofM 1 [d]) == p), [], 0) else none
    | _, _ => none
  | _, _ => none
theorem gVer_eq {h i : Nat} {p d X : List UInt8} (hp : p.length = 16) (hh : h ≤ 6) (h0 : 0 < h) (hi : i < 2 ^ h) (hd : d.length = 16) (hX : X.length = 16 * h) :
    gVer [.agg (bys p), .int .i64 (P2 h), .int .i64 (i : Int), .agg (bys d), .slc 0 0 16 h none] [(0, ⟨.view, bys X⟩)] = some (.bool (shS (inK i d X h) == p), [], 1) := by
  unfold gVer
  simp only [unB_bytes, Int.toNat_natCast]
  rw [if_pos ⟨hp, hd, hX, hh, h0, trivial, by omega, hi⟩]
theorem gVer_z {p d : List UInt8} (hp : p.length = 16) (hd : d.length = 16) :
    gVer [.agg (bys p), .int .i64 (P2 0), .int .i64 0, .agg (bys d), .val (.slice none 0 0)] [] = some (.bool (shS (ofM 1 [d]) == p), [], 0) := by
  unfold gVer
  simp only [unB_bytes]
  rw [if_pos ⟨hp, hd, trivial, trivial⟩]
theorem gVer_of {f : FuncId}
    (H : ∀ (h i : Nat) (p d X : List UInt8), p.length = 16 → h ≤ 6 → 0 < h → i < 2 ^ h → d.length = 16 → X.length = 16 * h →
      Fun Tryd.prog tH2 f [.agg (bys p), .int .i64 (P2 h), .int .i64 (i : Int), .agg (bys d), .slc 0 0 16 h none] [(0, ⟨.view, bys X⟩)] 1 (.bool (shS (inK i d X h) == p)) [] 1)
    (Hz : ∀ (p d : List UInt8), p.length = 16 → d.length = 16 →
      Fun Tryd.prog tH2 f [.agg (bys p), .int .i64 (P2 0), .int .i64 0, .agg (bys d), .val (.slice none 0 0)] [] 0 (.bool (shS (ofM 1 [d]) == p)) [] 0) : FunS Tryd.prog tH2 f gVer := by
  intro a0 m0 r m1 n1 h
  unfold gVer at h
  split at h
  · split at h
    · rename_i p d X hp hd hX
      split at h
      · rename_i hc
        cases h
        obtain ⟨c1, c2, c3, c4, c5, rfl, c7, c8⟩ := hc
        obtain ⟨k, rfl⟩ := Int.eq_ofNat_of_zero_le c7
        rw [unB_some hp, unB_some hd, unB_some hX]
        rw [Int.toNat_natCast] at c8 ⊢
        exact ⟨H _ k p d X c1 c4 c5 c8 c2 c3, by simp [freshB]⟩
      · cases h
    · cases h
  · split at h
    · rename_i p d hp hd
      split at h
      · rename_i hc
        cases h
        obtain ⟨c1, c2, rfl, rfl⟩ := hc
        rw [unB_some hp, unB_some hd]
        exact ⟨Hz p d c1 c2, by simp [freshB]⟩
      · cases h
    · cases h
  · cases h
theorem gVer64 : FunS Tryd.prog tH2 64 gVer := gVer_of f64 f64z
theorem gVer68 : FunS Tryd.prog tH2 68 gVer := gVer_of f68 f68z
def gDig6 : List SV → Option SV
  | [.agg cells, .int .i64 i, .str msg] => match unB cells with
    | some p => if p.length = 16 ∧ msg.length ≤ 2 ^ 30 ∧ -9223372036854775808 ≤ i ∧ i ≤ 9223372036854775807 then some (.agg (bys (ofS 6 [p, encI i, msg]))) else none
    | none => none
  | _ => none
theorem gDig6_eq {p msg : List UInt8} {i : Int} (hp : p.length = 16) (hm : msg.length ≤ 2 ^ 30) (h1 : -9223372036854775808 ≤ i) (h2 : i ≤ 9223372036854775807) :
    gDig6 [.agg (bys p), .int .i64 i, .str msg] = some (.agg (bys (ofS 6 [p, encI i, msg]))) := by
  unfold gDig6
  simp only [unB_bytes]
  rw [if_pos ⟨hp, hm, h1, h2⟩]
theorem gDig6_of {f : FuncId} (H : ∀ (p msg : List UInt8) (i : Int), p.length = 16 → msg.length ≤ 2 ^ 30 → R64 i → Fun Tryd.prog tH2 f [.agg (bys p), .int .i64 i, .str msg] [] 0 (.agg (bys (ofS 6 [p, encI i, msg]))) [] 0) :
    ∀ args r, gDig6 args = some r → Fun Tryd.prog tH2 f args [] 0 r [] 0 ∧ (∀ η, SV.renL η args = args) ∧ ∀ η, r.ren η = r := by
  intro args r hr
  unfold gDig6 at hr
  split at hr
  · split at hr
    · rename_i p hp
      split at hr
      · rename_i hc
        cases hr
        rw [unB_some hp]
        exact ⟨H p _ _ hc.1 hc.2.1 hc.2.2, fun η => by simp only [SV.renL, SV.ren, ren_bytes], fun η => by simp only [SV.renL, SV.ren, ren_bytes]⟩
      · cases hr
    · cases hr
  · cases hr
end Go.Proofs.YtkfbkooobfepeaaDoor
