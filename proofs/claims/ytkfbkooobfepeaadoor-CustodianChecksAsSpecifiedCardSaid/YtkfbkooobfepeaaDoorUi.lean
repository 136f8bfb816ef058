/- The proof, part Ui: the texts ChkC, ChkD, DecE, DecF, DecG, DecH, MemD, SanA, SanT, LawB, MemE, MemF, EncA, RefA, PlaD, PlaE, LawC. -/
import Derived.Test.YtkfbkooobfepeaaDoorUh
set_option linter.unusedSimpArgs false
set_option linter.unusedVariables false
/- The check of a signature of a tree: the reference's. -/
namespace Go.Proofs.YtkfbkooobfepeaaDoor
open Go Go.Sx Sf
set_option maxRecDepth 100000
set_option linter.unusedVariables false
structure Sg where
  i : Int
  u1 : Nat
  e1 : Int
  s : List UInt8
  u2 : Nat
  e2 : Int
  n : Nat
  u3 : Nat
  e3 : Int
  x : List UInt8
def sgOf (b : List UInt8) : Sg :=
  let d := decS b
  let t := bytS (b.drop d.2.1)
  let q := b.drop (d.2.1 + t.2.1)
  ⟨d.1, d.2.1, d.2.2, t.1, t.2.1, t.2.2, dgsN q, dgsU q, cntE q 16, dgsX q⟩
def verS (p : List UInt8) (ht : Int) (msg sig : List UInt8) : Int × Int :=
  if ht < 0 ∨ 6 < ht then (0, 1) else if 1048576 < msg.length then (0, 2) else
  let g := sgOf sig
  if g.e1 ≠ 0 then (0, g.e1) else if g.e2 ≠ 0 then (0, g.e2) else if g.e3 ≠ 0 then (0, g.e3) else
  if g.u1 + g.u2 + g.u3 ≠ sig.length ∨ g.i < 0 ∨ g.i ≥ P2 ht.toNat ∨ (g.n : Int) ≠ ht then (0, 6) else
  if g.s.length ≠ 560 then (0, 8) else
  if shS (inK g.i.toNat (recS (ofS 6 [p, encI g.i, msg]) g.s) g.x g.n) == p then (g.i, 0) else (0, 8)
def verT (p : List UInt8) (ht : Int) (msg sig : List UInt8) : SV := .tup [.int .i64 (verS p ht msg sig).1, .int .i64 (verS p ht msg sig).2]
theorem byt_ok {b s : List UInt8} {u : Nat} (h : bytS b = (s, u, 0)) : u ≤ b.length := by
  unfold bytS at h
  split at h
  · rename_i h1
    simp only [Prod.mk.injEq] at h
    exact absurd h.2.2 h1
  · rename_i h1
    obtain ⟨n, w, hx, h2, h3, h4⟩ := cnt_ok (s := 1) (by simpa using h1)
    rw [hx] at h
    simp only [Prod.mk.injEq, Int.toNat_natCast, Nat.div_one] at h h3
    omega
theorem dgs_ok {b : List UInt8} (h : cntE b 16 = 0) : dgsU b ≤ b.length ∧ (dgsX b).length = 16 * dgsN b := by
  obtain ⟨n, u, hx, h1, h2, h3⟩ := cnt_ok h
  have h4 : 16 * n ≤ b.length - u := by have := Nat.mul_le_mul_left 16 h2; have := Nat.mul_div_le (b.length - u) 16; omega
  unfold dgsU dgsX dgsN
  rw [if_neg (by simpa using h), if_neg (by simpa using h), if_neg (by simpa using h), hx]
  simp only [Int.toNat_natCast, List.length_take, List.length_drop]
  omega
theorem gDgsz {b : List UInt8} (h : cntE b 16 ≠ 0) : dgsN b = 0 := by unfold dgsN; rw [if_pos h]
theorem p2_le {h : Nat} (hh : h ≤ 6) : P2 h ≤ 64 ∧ 1 ≤ P2 h := by
  have : h = 0 ∨ h = 1 ∨ h = 2 ∨ h = 3 ∨ h = 4 ∨ h = 5 ∨ h = 6 := by omega
  rcases this with rfl | rfl | rfl | rfl | rfl | rfl | rfl <;> decide
theorem p2_shl {h : Nat} (hh : h ≤ 6) : IntKind.i64.wrap (1 * 2 ^ (min h IntKind.i64.bits)) = P2 h := by
  have : h = 0 ∨ h = 1 ∨ h = 2 ∨ h = 3 ∨ h = 4 ∨ h = 5 ∨ h = 6 := by omega
  rcases this with rfl | rfl | rfl | rfl | rfl | rfl | rfl <;> decide
theorem verS_in {p msg sig : List UInt8} {h : Nat} (hh : h ≤ 6) (h3 : msg.length ≤ 1048576) : verS p h msg sig =
    (if (sgOf sig).e1 ≠ 0 then (0, (sgOf sig).e1) else if (sgOf sig).e2 ≠ 0 then (0, (sgOf sig).e2) else if (sgOf sig).e3 ≠ 0 then (0, (sgOf sig).e3) else
      if (sgOf sig).u1 + (sgOf sig).u2 + (sgOf sig).u3 ≠ sig.length ∨ (sgOf sig).i < 0 ∨ (sgOf sig).i ≥ P2 h ∨ ((sgOf sig).n : Int) ≠ (h : Int) then (0, 6) else
      if (sgOf sig).s.length ≠ 560 then (0, 8) else
      if shS (inK (sgOf sig).i.toNat (recS (ofS 6 [p, encI (sgOf sig).i, msg]) (sgOf sig).s) (sgOf sig).x (sgOf sig).n) == p then ((sgOf sig).i, 0) else (0, 8)) := by
  unfold verS
  rw [if_neg (by omega), if_neg (by omega), Int.toNat_natCast]
def tabVd : List (FuncId × GS) := [(50, gGetIntR), (49, gGetBytes), (65, gDgs), (68, gVer)]
theorem tabVd_ok : ∀ x ∈ tabVd, FunS Tryd.prog tH2 x.1 x.2 := by
  intro x hx
  simp only [tabVd, List.mem_cons, List.not_mem_nil, or_false] at hx
  rcases hx with rfl | rfl | rfl | rfl
  · exact gGetIntR_ok
  · exact gGetBytes_ok f49
  · exact gDgs65
  · exact gVer68
def tbVd : Tab := ⟨[(67, gDig6), (66, gRec)], []⟩
theorem tbVd_ok : TabX Tryd.prog tH2 tbVd := by
  refine ⟨fun x h args r hr => ?_, fun x h => by simp [tbVd] at h⟩
  simp only [tbVd, List.mem_cons, List.not_mem_nil, or_false] at h
  rcases h with rfl | rfl
  · obtain ⟨h1, h2, h3⟩ := gDig6_of (f := 67) (fun p msg i h1 h2 h3 => f67 p msg i h1 h2 h3) args r hr
    exact ⟨h1, h2, fun η => by simp only [SV.renL, h3]⟩
  · obtain ⟨h1, h2, h3⟩ := gRec66 args r hr
    exact ⟨h1, h2, fun η => by simp only [SV.renL, h3]⟩
def cVd : CallT := callS tabVd (callX tbVd)
theorem cVd_ok : ∀ f a m n K, cVd f a m n K → callT Tryd.prog tH2 f a m n K := callS_ok tabVd_ok (callX_ok tbVd_ok)
theorem take_drop_bys (b : List UInt8) (o : Nat) : List.take (b.drop o).length (List.drop o (bys b)) = bys (b.drop o) := by
  simp only [bys, List.map_drop, List.length_drop]
  rw [List.take_of_length_le (by simp)]
set_option maxHeartbeats 8000000 in
theorem f42 (p msg sig : List UInt8) (ht : Int) (hp : p.length = 16) (hm : msg.length ≤ 2 ^ 40) (hs : sig.length ≤ 2 ^ 30) :
    Fun Tryd.prog tH2 42 [.agg (bys p), .int .i64 ht, .str msg, .str sig] [] 0 (verT p ht msg sig) [] 0 := by
  refine fun_pure none cVd cVd_ok chk42 (show 4 ≤ 112 by decide) (fun η => by simp only [verT, SV.ren, SV.renL]) ?_
  unfold sf42 og oh om oq ov verT
  have lp : (bys p).length = 16 := by rw [len_bytes, hp]
  have tp := take16 hp
  have ms : msg.map SV.byte = bys msg := rfl
  have ss : sig.map SV.byte = bys sig := rfl
  have ls : (bys sig).length = sig.length := len_bytes sig
  have ts := take_bytes sig
  by_cases h1 : ht < 0
  · have hv : verS p ht msg sig = (0, 1) := by unfold verS; rw [if_pos (Or.inl h1)]
    simp (config := { maxSteps := 1000000 }) only [cVd, tabVd, tbVd, h1, hv, undef, setv, reduceCtorEq, Nat.reduceEqDiff, Nat.reduceAdd, eq_self, frOf, setv, ↓reduceIte, ↓binI, ↓evRes, Opd.ev, Sx.get, put, putO, del, dels, SV.cells?, retOf, BB, ↓PB]
  by_cases h2 : ht > 6
  · have hv : verS p ht msg sig = (0, 1) := by unfold verS; rw [if_pos (Or.inr h2)]
    simp (config := { maxSteps := 1000000 }) only [cVd, tabVd, tbVd, h1, h2, hv, setv, reduceCtorEq, Nat.reduceEqDiff, Nat.reduceAdd, eq_self, frOf, setv, ↓reduceIte, ↓binI, ↓evRes, Opd.ev, Sx.get, put, putO, del, dels, SV.cells?, retOf, BB, ↓PB]
  by_cases h3 : (msg.length : Int) > 1048576
  · have hv : verS p ht msg sig = (0, 2) := by unfold verS; rw [if_neg (by omega), if_pos (by omega)]
    simp (config := { maxSteps := 1000000 }) only [cVd, tabVd, tbVd, h1, h2, h3, hv, setv, reduceCtorEq, Nat.reduceEqDiff, Nat.reduceAdd, eq_self, frOf, setv, ↓reduceIte, ↓binI, ↓evRes, Opd.ev, Sx.get, put, putO, del, dels, SV.cells?, retOf, BB, ↓PB]
  obtain ⟨h, rfl⟩ : ∃ h : Nat, ht = (h : Int) := ⟨ht.toNat, by omega⟩
  have hh : h ≤ 6 := by omega
  have hv := verS_in (p := p) (msg := msg) (sig := sig) hh (by omega)
  rcases hx : decS sig with ⟨i, u1, e1⟩
  have hb40 : sig.length ≤ 2 ^ 40 := by omega
  have g1 : gGetIntR [.slc 0 0 1 sig.length none] [(0, ⟨.view, bys sig⟩)] = some (tup3 (i, u1, e1), [], 1) := by
    unfold gGetIntR
    simp only [unB_bytes, capB, hb40, and_self, if_true, hx]
  simp only [sgOf, hx] at hv
  rcases dec_err hx with ⟨rfl, hR, hu, _⟩ | ⟨he, rfl, rfl⟩
  · rw [if_neg (by simp)] at hv
    have w1 : (0 : Int) ≤ (u1 : Int) := by omega
    have w2 : (u1 : Int) ≤ (sig.length : Int) := by omega
    have lb1 : sig.length - u1 = (sig.drop u1).length := by simp
    have tb1 := take_drop_bys sig u1
    have k1 : u1 + (sig.drop u1).length ≤ sig.length := by simp; omega
    rcases hy : bytS (sig.drop u1) with ⟨s, u2, e2⟩
    have hb1 : (sig.drop u1).length ≤ 2 ^ 40 := by simp; omega
    have g2 : gGetBytes [.slc 0 0 1 (sig.drop u1).length none] [(0, ⟨.view, bys (sig.drop u1)⟩)] = some (tupB (s, u2, e2), [], 1) := by
      unfold gGetBytes
      simp only [unB_bytes]
      rw [if_pos ⟨trivial, hb1⟩, hy]
    simp only [hy] at hv
    by_cases he2 : e2 = 0
    · subst he2
      rw [if_neg (by simp)] at hv
      have hu2 := byt_ok hy
      have w3 : IntKind.i64.wrap ((u1 : Int) + (u2 : Int)) = ((u1 + u2 : Nat) : Int) := by rw [wrap64_eq (by simp at hu2; omega) (by simp at hu2; omega)]; omega
      have w4 : (0 : Int) ≤ ((u1 + u2 : Nat) : Int) := by omega
      have w5 : ((u1 + u2 : Nat) : Int) ≤ (sig.length : Int) := by simp at hu2; omega
      have lb2 : sig.length - (u1 + u2) = (sig.drop (u1 + u2)).length := by simp
      have tb2 := take_drop_bys sig (u1 + u2)
      have k2 : u1 + u2 + (sig.drop (u1 + u2)).length ≤ sig.length := by simp; simp at hu2; omega
      have g3 := gDgs_eq (b := sig.drop (u1 + u2)) (by simp; omega)
      generalize hB2 : sig.drop (u1 + u2) = b2 at *
      generalize hB1 : sig.drop u1 = b1 at *
      by_cases he3 : cntE b2 16 = 0
      · rw [if_neg (by simpa using he3)] at hv
        obtain ⟨hu3, hxl⟩ := dgs_ok he3
        have w6 : IntKind.i64.wrap (((u1 + u2 : Nat) : Int) + (dgsU b2 : Int)) = ((u1 + u2 + dgsU b2 : Nat) : Int) := by rw [wrap64_eq (by omega) (by omega)]; omega
        simp only [dgsR, he3] at g3
        generalize dgsX b2 = X at *
        generalize dgsU b2 = u3 at *
        generalize dgsN b2 = n at *
        have h0h : (0 : Int) ≤ (h : Int) := by omega
        have hc : (u1 + u2 + u3 ≠ sig.length ∨ i < 0 ∨ i ≥ P2 h ∨ (n : Int) ≠ (h : Int)) ∨ (u1 + u2 + u3 = sig.length ∧ 0 ≤ i ∧ i < P2 h ∧ n = h) := by omega
        have hsh := p2_shl hh
        have e64 := p2_le hh
        rcases hc with hc | ⟨c1, c2, c3, rfl⟩
        · rw [if_pos hc] at hv
          rcases Nat.eq_zero_or_pos n with hn | hn
          · simp only [nlS_z hn, nlM_z hn, nlN_z hn] at g3
            by_cases c1 : u1 + u2 + u3 = sig.length
            · by_cases c2 : i < 0
              · have q1 : (((u1 + u2 + u3 : Nat) : Int) != (sig.length : Int)) = false := by simp; omega
                simp (config := { maxSteps := 1000000 }) only [cVd, tabVd, tbVd, h1, h2, h3, ss, ↓g1, ↓g2, ↓g3, ls, ts, tup3, tupB, w1, w2, w3, w4, w5, w6, lb1, tb1, k1, lb2, tb2, k2, hv, Option.map_none, Int.le_refl, q1, c2, undef, Int.reduceBNe, lookF, setv, reduceCtorEq, Nat.reduceEqDiff, Nat.reduceAdd, Nat.reduceSub, Nat.reduceLT, eq_self, frOf, setv, ↓reduceIte, ↓binI, ↓evRes, Opd.ev, Sx.get, put, putO, del, dels, rd, SV.cells?, retOf, canLW, canV, canC, belowL, apH, apH1, SV.ren, SV.renL, newOwn, targets, rms, Kind.isOwn, BB, ↓PB]
              · by_cases c3 : i ≥ P2 h
                · have q1 : (((u1 + u2 + u3 : Nat) : Int) != (sig.length : Int)) = false := by simp; omega
                  simp (config := { maxSteps := 1000000 }) only [cVd, tabVd, tbVd, h1, h2, h3, ss, ↓g1, ↓g2, ↓g3, ls, ts, tup3, tupB, w1, w2, w3, w4, w5, w6, lb1, tb1, k1, lb2, tb2, k2, hv, h0h, Option.map_none, Int.le_refl, q1, c2, c3, hsh, undef, Int.reduceBNe, lookF, setv, reduceCtorEq, Nat.reduceEqDiff, Nat.reduceAdd, Nat.reduceSub, Nat.reduceLT, eq_self, frOf, setv, ↓reduceIte, ↓binI, ↓evRes, Opd.ev, Sx.get, put, putO, del, dels, rd, SV.cells?, retOf, canLW, canV, canC, belowL, apH, apH1, SV.ren, SV.renL, newOwn, targets, rms, Kind.isOwn, BB, ↓PB]
                · have q1 : (((u1 + u2 + u3 : Nat) : Int) != (sig.length : Int)) = false := by simp; omega
                  have q2 : ((0 : Int) != (h : Int)) = true := by simp; omega
                  simp (config := { maxSteps := 1000000 }) only [cVd, tabVd, tbVd, h1, h2, h3, ss, ↓g1, ↓g2, ↓g3, ls, ts, tup3, tupB, w1, w2, w3, w4, w5, w6, lb1, tb1, k1, lb2, tb2, k2, hv, h0h, Option.map_none, Int.le_refl, q1, q2, c2, c3, hsh, Int.reduceBNe, lookF, setv, reduceCtorEq, Nat.reduceEqDiff, Nat.reduceAdd, Nat.reduceSub, Nat.reduceLT, eq_self, frOf, setv, ↓reduceIte, ↓binI, ↓evRes, Opd.ev, Sx.get, put, putO, del, dels, rd, SV.cells?, retOf, canLW, canV, canC, belowL, apH, apH1, SV.ren, SV.renL, newOwn, targets, rms, Kind.isOwn, BB, ↓PB]
            · have q1 : (((u1 + u2 + u3 : Nat) : Int) != (sig.length : Int)) = true := by simp; omega
              simp (config := { maxSteps := 1000000 }) only [cVd, tabVd, tbVd, h1, h2, h3, ss, ↓g1, ↓g2, ↓g3, ls, ts, tup3, tupB, w1, w2, w3, w4, w5, w6, lb1, tb1, k1, lb2, tb2, k2, hv, Option.map_none, Int.le_refl, q1, undef, Int.reduceBNe, lookF, setv, reduceCtorEq, Nat.reduceEqDiff, Nat.reduceAdd, Nat.reduceSub, Nat.reduceLT, eq_self, frOf, setv, ↓reduceIte, ↓binI, ↓evRes, Opd.ev, Sx.get, put, putO, del, dels, rd, SV.cells?, retOf, canLW, canV, canC, belowL, apH, apH1, SV.ren, SV.renL, newOwn, targets, rms, Kind.isOwn, BB, ↓PB]
          · simp only [nlS_p hn, nlM_p hn, nlN_p hn] at g3
            by_cases c1 : u1 + u2 + u3 = sig.length
            · by_cases c2 : i < 0
              · have q1 : (((u1 + u2 + u3 : Nat) : Int) != (sig.length : Int)) = false := by simp; omega
                simp (config := { maxSteps := 1000000 }) only [cVd, tabVd, tbVd, h1, h2, h3, ss, ↓g1, ↓g2, ↓g3, ls, ts, tup3, tupB, w1, w2, w3, w4, w5, w6, lb1, tb1, k1, lb2, tb2, k2, hv, Option.map_none, Int.le_refl, q1, c2, undef, Int.reduceBNe, lookF, setv, reduceCtorEq, Nat.reduceEqDiff, Nat.reduceAdd, Nat.reduceSub, Nat.reduceLT, eq_self, frOf, setv, ↓reduceIte, ↓binI, ↓evRes, Opd.ev, Sx.get, put, putO, del, dels, rd, SV.cells?, retOf, canLW, canV, canC, belowL, apH, apH1, eta, SV.ren, SV.renL, newOwn, targets, rms, Kind.isOwn, BB, ↓PB]
              · by_cases c3 : i ≥ P2 h
                · have q1 : (((u1 + u2 + u3 : Nat) : Int) != (sig.length : Int)) = false := by simp; omega
                  simp (config := { maxSteps := 1000000 }) only [cVd, tabVd, tbVd, h1, h2, h3, ss, ↓g1, ↓g2, ↓g3, ls, ts, tup3, tupB, w1, w2, w3, w4, w5, w6, lb1, tb1, k1, lb2, tb2, k2, hv, h0h, Option.map_none, Int.le_refl, q1, c2, c3, hsh, undef, Int.reduceBNe, lookF, setv, reduceCtorEq, Nat.reduceEqDiff, Nat.reduceAdd, Nat.reduceSub, Nat.reduceLT, eq_self, frOf, setv, ↓reduceIte, ↓binI, ↓evRes, Opd.ev, Sx.get, put, putO, del, dels, rd, SV.cells?, retOf, canLW, canV, canC, belowL, apH, apH1, eta, SV.ren, SV.renL, newOwn, targets, rms, Kind.isOwn, BB, ↓PB]
                · have q1 : (((u1 + u2 + u3 : Nat) : Int) != (sig.length : Int)) = false := by simp; omega
                  have q2 : ((n : Int) != (h : Int)) = true := by simp; omega
                  simp (config := { maxSteps := 1000000 }) only [cVd, tabVd, tbVd, h1, h2, h3, ss, ↓g1, ↓g2, ↓g3, ls, ts, tup3, tupB, w1, w2, w3, w4, w5, w6, lb1, tb1, k1, lb2, tb2, k2, hv, h0h, Option.map_none, Int.le_refl, q1, q2, c2, c3, hsh, Int.reduceBNe, lookF, setv, reduceCtorEq, Nat.reduceEqDiff, Nat.reduceAdd, Nat.reduceSub, Nat.reduceLT, eq_self, frOf, setv, ↓reduceIte, ↓binI, ↓evRes, Opd.ev, Sx.get, put, putO, del, dels, rd, SV.cells?, retOf, canLW, canV, canC, belowL, apH, apH1, eta, SV.ren, SV.renL, newOwn, targets, rms, Kind.isOwn, BB, ↓PB]
            · have q1 : (((u1 + u2 + u3 : Nat) : Int) != (sig.length : Int)) = true := by simp; omega
              simp (config := { maxSteps := 1000000 }) only [cVd, tabVd, tbVd, h1, h2, h3, ss, ↓g1, ↓g2, ↓g3, ls, ts, tup3, tupB, w1, w2, w3, w4, w5, w6, lb1, tb1, k1, lb2, tb2, k2, hv, Option.map_none, Int.le_refl, q1, undef, Int.reduceBNe, lookF, setv, reduceCtorEq, Nat.reduceEqDiff, Nat.reduceAdd, Nat.reduceSub, Nat.reduceLT, eq_self, frOf, setv, ↓reduceIte, ↓binI, ↓evRes, Opd.ev, Sx.get, put, putO, del, dels, rd, SV.cells?, retOf, canLW, canV, canC, belowL, apH, apH1, eta, SV.ren, SV.renL, newOwn, targets, rms, Kind.isOwn, BB, ↓PB]
        · rw [if_neg (by omega)] at hv
          obtain ⟨k, rfl⟩ : ∃ k : Nat, i = (k : Int) := ⟨i.toNat, by omega⟩
          have q1 : (((u1 + u2 + u3 : Nat) : Int) != (sig.length : Int)) = false := by simp; omega
          have c3' : ¬ (k : Int) ≥ P2 n := by omega
          have c2' : ¬ (k : Int) < 0 := by omega
          have kn : k < 2 ^ n := by have c9 : ((k : Nat) : Int) < ((2 ^ n : Nat) : Int) := c3; exact_mod_cast c9
          have gd := gDig6_eq (p := p) (msg := msg) (i := (k : Int)) hp (by omega) hR.1 hR.2
          have hD := ofS_len 6 [p, encI (k : Int), msg]
          rw [Int.toNat_natCast] at hv
          generalize ofS 6 [p, encI (k : Int), msg] = D at *
          have lD : (bys D).length = 16 := by rw [len_bytes, hD]
          have tD := take16 hD
          by_cases h560 : s.length = 560
          · rw [if_neg (by omega)] at hv
            have gr := gRec_yes hD h560
            have hL : (recS D s).length = 16 := ofS_len _ _
            generalize recS D s = L at *
            have lL : (bys L).length = 16 := by rw [len_bytes, hL]
            have tL := take16 hL
            rcases Nat.eq_zero_or_pos n with hn | hn
            · subst hn
              obtain rfl : k = 0 := by simpa using kn
              have gv := gVer_z (d := L) hp hL
              simp only [nlS_z, nlM_z, nlN_z] at g3
              have hi0 : inK 0 L X 0 = ofM 1 [L] := rfl
              rw [hi0] at hv
              have hsh0 : IntKind.i64.wrap (1 * 2 ^ (min 0 IntKind.i64.bits)) = P2 0 := by decide
              have c30 : ¬ (0 : Int) ≥ P2 0 := by decide
              have n0 : ((0 : Nat) : Int) = 0 := rfl
              rw [n0] at hv gd
              generalize hB : (shS (ofM 1 [L]) == p) = B at *
              cases B
              · simp only [Bool.false_eq_true, if_false] at hv
                simp (config := { maxSteps := 1000000 }) only [cVd, tabVd, tbVd, h3, ss, ↓g1, ↓g2, ↓g3, ls, ts, tup3, tupB, w1, w2, w3, w4, w5, w6, lb1, tb1, k1, lb2, tb2, k2, hv, Option.map_none, Int.le_refl, q1, hsh0, c30, lp, tp, ↓gd, ↓gr, ↓gv, lL, tL, n0, SV.flatL, SV.flat, Int.reduceGT, Int.reduceBNe, lookF, setv, reduceCtorEq, Nat.reduceEqDiff, Nat.reduceAdd, Nat.reduceSub, Nat.reduceLT, Int.reduceToNat, Int.reduceLT, eq_self, frOf, setv, ↓reduceIte, ↓binI, ↓evRes, Opd.ev, Sx.get, put, putO, del, dels, rd, upd, splice, SV.cells?, retOf, canLW, canV, canC, belowL, apH, apH1, SV.ren, SV.renL, newOwn, targets, rms, Kind.isOwn, BB, ↓PB]
              · simp only [if_true] at hv
                simp (config := { maxSteps := 1000000 }) only [cVd, tabVd, tbVd, h3, ss, ↓g1, ↓g2, ↓g3, ls, ts, tup3, tupB, w1, w2, w3, w4, w5, w6, lb1, tb1, k1, lb2, tb2, k2, hv, Option.map_none, Int.le_refl, q1, hsh0, c30, lp, tp, ↓gd, ↓gr, ↓gv, lL, tL, n0, SV.flatL, SV.flat, Int.reduceGT, Int.reduceBNe, lookF, setv, reduceCtorEq, Nat.reduceEqDiff, Nat.reduceAdd, Nat.reduceSub, Nat.reduceLT, Int.reduceToNat, Int.reduceLT, eq_self, frOf, setv, ↓reduceIte, ↓binI, ↓evRes, Opd.ev, Sx.get, put, putO, del, dels, rd, upd, splice, SV.cells?, retOf, canLW, canV, canC, belowL, apH, apH1, SV.ren, SV.renL, newOwn, targets, rms, Kind.isOwn, BB, ↓PB]
            · have gv := gVer_eq (d := L) hp hh hn kn hL hxl
              simp only [nlS_p hn, nlM_p hn, nlN_p hn] at g3
              have q2 : ((n : Int) != (n : Int)) = false := by simp
              have lX : (bys X).length = 16 * n := by rw [len_bytes, hxl]
              have tX : List.take (16 * n) (bys X) = bys X := List.take_of_length_le (by omega)
              have tX2 : List.take (n * 16) (bys X) = bys X := List.take_of_length_le (by omega)
              have b16 : n * 16 ≤ 16 * n := by omega
              generalize hB : (shS (inK k L X n) == p) = B at *
              cases B
              · simp only [Bool.false_eq_true, if_false] at hv
                simp (config := { maxSteps := 1000000 }) only [cVd, tabVd, tbVd, h1, h2, h3, ss, ↓g1, ↓g2, ↓g3, ls, ts, tup3, tupB, w1, w2, w3, w4, w5, w6, lb1, tb1, k1, lb2, tb2, k2, hv, h0h, Option.map_none, Int.le_refl, q1, q2, hsh, c2', c3', lp, tp, ↓gd, ↓gr, ↓gv, lL, tL, lX, tX2, b16, SV.flatL, SV.flat, Int.reduceBNe, lookF, setv, reduceCtorEq, Nat.reduceEqDiff, Nat.reduceAdd, Nat.reduceSub, Nat.reduceLT, eq_self, frOf, setv, ↓reduceIte, ↓binI, ↓evRes, Opd.ev, Sx.get, put, putO, del, dels, rd, upd, splice, SV.cells?, retOf, canLW, canV, canC, belowL, apH, apH1, eta, SV.ren, SV.renL, newOwn, targets, rms, Kind.isOwn, BB, ↓PB]
              · simp only [if_true] at hv
                simp (config := { maxSteps := 1000000 }) only [cVd, tabVd, tbVd, h1, h2, h3, ss, ↓g1, ↓g2, ↓g3, ls, ts, tup3, tupB, w1, w2, w3, w4, w5, w6, lb1, tb1, k1, lb2, tb2, k2, hv, h0h, Option.map_none, Int.le_refl, q1, q2, hsh, c2', c3', lp, tp, ↓gd, ↓gr, ↓gv, lL, tL, lX, tX2, b16, SV.flatL, SV.flat, Int.reduceBNe, lookF, setv, reduceCtorEq, Nat.reduceEqDiff, Nat.reduceAdd, Nat.reduceSub, Nat.reduceLT, eq_self, frOf, setv, ↓reduceIte, ↓binI, ↓evRes, Opd.ev, Sx.get, put, putO, del, dels, rd, upd, splice, SV.cells?, retOf, canLW, canV, canC, belowL, apH, apH1, eta, SV.ren, SV.renL, newOwn, targets, rms, Kind.isOwn, BB, ↓PB]
          · rw [if_pos h560] at hv
            have gr := gRec_no hD h560
            have z16l : zero16.length = 16 := by decide
            rcases Nat.eq_zero_or_pos n with hn | hn
            · simp only [nlS_z hn, nlM_z hn, nlN_z hn] at g3
              have q2 : ((0 : Int) != (n : Int)) = false := by simp; omega
              simp (config := { maxSteps := 1000000 }) only [cVd, tabVd, tbVd, h1, h2, h3, ss, ↓g1, ↓g2, ↓g3, ls, ts, tup3, tupB, w1, w2, w3, w4, w5, w6, lb1, tb1, k1, lb2, tb2, k2, hv, h0h, Option.map_none, Int.le_refl, q1, q2, hsh, c2', c3', lp, tp, ↓gd, ↓gr, z16l, SV.flatL, SV.flat, Int.reduceBNe, lookF, setv, reduceCtorEq, Nat.reduceEqDiff, Nat.reduceAdd, Nat.reduceSub, Nat.reduceLT, eq_self, frOf, setv, ↓reduceIte, ↓binI, ↓evRes, Opd.ev, Sx.get, put, putO, del, dels, rd, upd, splice, SV.cells?, retOf, canLW, canV, canC, belowL, apH, apH1, SV.ren, SV.renL, newOwn, targets, rms, Kind.isOwn, BB, ↓PB]
            · simp only [nlS_p hn, nlM_p hn, nlN_p hn] at g3
              have q2 : ((n : Int) != (n : Int)) = false := by simp
              simp (config := { maxSteps := 1000000 }) only [cVd, tabVd, tbVd, h1, h2, h3, ss, ↓g1, ↓g2, ↓g3, ls, ts, tup3, tupB, w1, w2, w3, w4, w5, w6, lb1, tb1, k1, lb2, tb2, k2, hv, h0h, Option.map_none, Int.le_refl, q1, q2, hsh, c2', c3', lp, tp, ↓gd, ↓gr, z16l, SV.flatL, SV.flat, Int.reduceBNe, lookF, setv, reduceCtorEq, Nat.reduceEqDiff, Nat.reduceAdd, Nat.reduceSub, Nat.reduceLT, eq_self, frOf, setv, ↓reduceIte, ↓binI, ↓evRes, Opd.ev, Sx.get, put, putO, del, dels, rd, upd, splice, SV.cells?, retOf, canLW, canV, canC, belowL, apH, apH1, eta, SV.ren, SV.renL, newOwn, targets, rms, Kind.isOwn, BB, ↓PB]
      · rw [if_pos he3] at hv
        have he' : (cntE b2 16 != 0) = true := by simpa using he3
        have z3 := gDgsz he3
        simp only [dgsR, nlS_z z3, nlM_z z3, nlN_z z3] at g3
        simp (config := { maxSteps := 1000000 }) only [cVd, tabVd, tbVd, h1, h2, h3, ss, ↓g1, ↓g2, ↓g3, ls, ts, tup3, tupB, w1, w2, w3, w4, w5, lb1, tb1, k1, lb2, tb2, k2, he', hv, Option.map_none, Int.le_refl, Int.reduceBNe, lookF, setv, reduceCtorEq, Nat.reduceEqDiff, Nat.reduceAdd, Nat.reduceSub, Nat.reduceLT, eq_self, frOf, setv, ↓reduceIte, ↓binI, ↓evRes, Opd.ev, Sx.get, put, putO, del, dels, rd, SV.cells?, retOf, canLW, canV, canC, belowL, apH, apH1, SV.ren, SV.renL, newOwn, targets, rms, Kind.isOwn, BB, ↓PB]
    · rw [if_pos he2] at hv
      have he' : (e2 != 0) = true := by simpa using he2
      generalize hB1 : sig.drop u1 = b1 at *
      simp (config := { maxSteps := 1000000 }) only [cVd, tabVd, tbVd, h1, h2, h3, ss, ↓g1, ↓g2, ls, ts, tup3, tupB, w1, w2, lb1, tb1, k1, he', hv, Option.map_none, Int.le_refl, Int.reduceBNe, lookF, setv, reduceCtorEq, Nat.reduceEqDiff, Nat.reduceAdd, Nat.reduceSub, Nat.reduceLT, eq_self, frOf, setv, ↓reduceIte, ↓binI, ↓evRes, Opd.ev, Sx.get, put, putO, del, dels, rd, SV.cells?, retOf, canLW, canV, canC, belowL, apH, apH1, SV.ren, SV.renL, newOwn, targets, rms, Kind.isOwn, BB, ↓PB]
  · rw [if_pos he] at hv
    have he' : (e1 != 0) = true := by simpa using he
    simp (config := { maxSteps := 1000000 }) only [cVd, tabVd, tbVd, h1, h2, h3, ss, ↓g1, ls, ts, tup3, he', hv, lookF, setv, reduceCtorEq, Nat.reduceEqDiff, Nat.reduceAdd, Nat.reduceSub, Nat.reduceLT, eq_self, frOf, setv, ↓reduceIte, ↓binI, ↓evRes, Opd.ev, Sx.get, put, putO, del, dels, rd, SV.cells?, retOf, canLW, canV, canC, belowL, apH, apH1, SV.ren, SV.renL, newOwn, targets, rms, Kind.isOwn, BB, ↓PB]
end Go.Proofs.YtkfbkooobfepeaaDoor

/- The check of a signature of a tree: the program's. -/
namespace Go.Proofs.YtkfbkooobfepeaaDoor
open Go Go.Sx Sf
set_option maxRecDepth 100000
set_option linter.unusedVariables false
theorem bytC_err {b s : List UInt8} {u : Nat} {e : Int} (h : bytS b = (s, u, e)) (he : e ≠ 0) : dgsN b = 0 := by
  refine gDgsz fun h16 => ?_
  obtain ⟨n, w, hx, h1, h2, h3⟩ := cnt_ok h16
  have h4 : n ≤ b.length - w := Nat.le_trans h2 (Nat.div_le_self _ _)
  have h5 : cntE b 1 = 0 := by
    unfold cntE
    rw [hx]
    simp only [Nat.div_one]
    rw [if_neg (by simp), if_neg (by omega), if_neg (by omega)]
  unfold bytS at h
  rw [if_neg (by simpa using h5)] at h
  simp only [Prod.mk.injEq] at h
  exact he h.2.2.symm
theorem cntC_err {b : List UInt8} (h : (decS b).2.2 ≠ 0) : dgsN b = 0 := gDgsz (by unfold cntE; rw [if_pos h]; exact h)
def tabVp : List (FuncId × GS) := [(57, gHt), (59, gGetInt), (60, gGetBytes), (61, gDgs), (64, gVer)]
theorem tabVp_ok : ∀ x ∈ tabVp, FunS Tryd.prog tH2 x.1 x.2 := by
  intro x hx
  simp only [tabVp, List.mem_cons, List.not_mem_nil, or_false] at hx
  rcases hx with rfl | rfl | rfl | rfl | rfl
  · exact gHt_ok
  · exact gGetInt_ok
  · exact gGetBytes_ok f60
  · exact gDgs61
  · exact gVer64
def tbVp : Tab := ⟨[(63, gDig6), (62, gRec)], []⟩
theorem tbVp_ok : TabX Tryd.prog tH2 tbVp := by
  refine ⟨fun x h args r hr => ?_, fun x h => by simp [tbVp] at h⟩
  simp only [tbVp, List.mem_cons, List.not_mem_nil, or_false] at h
  rcases h with rfl | rfl
  · obtain ⟨h1, h2, h3⟩ := gDig6_of (f := 63) (fun p msg i h1 h2 _ => f63 p msg i h1 h2) args r hr
    exact ⟨h1, h2, fun η => by simp only [SV.renL, h3]⟩
  · obtain ⟨h1, h2, h3⟩ := gRec62 args r hr
    exact ⟨h1, h2, fun η => by simp only [SV.renL, h3]⟩
def cVp : CallT := callAnd 58 (callT Tryd.prog tH2) (callAnd 75 (callT Tryd.prog tH2) (callAnd 76 (callT Tryd.prog tH2) (callS tabVp (callX tbVp))))
theorem cVp_ok : ∀ f a m n K, cVp f a m n K → callT Tryd.prog tH2 f a m n K := callAnd_ok (callAnd_ok (callAnd_ok (callS_ok tabVp_ok (callX_ok tbVp_ok))))
set_option maxHeartbeats 16000000 in
theorem f41 (p msg sig : List UInt8) (ht : Int) (hp : p.length = 16) (hm : msg.length ≤ 2 ^ 40) (hs : sig.length ≤ 2 ^ 30) :
    Fun Tryd.prog tH2 41 [.agg (bys p), .int .i64 ht, .str msg, .str sig] [] 0 (verT p ht msg sig) [] 0 := by
  refine fun_pure none cVp cVp_ok chk41 (show 4 ≤ 129 by decide) (fun η => by simp only [verT, SV.ren, SV.renL]) ?_
  unfold sf41 og oh om oq ov verT
  have lp : (bys p).length = 16 := by rw [len_bytes, hp]
  have tp := take16 hp
  have ls : (bys sig).length = sig.length := len_bytes sig
  have ts := take_bytes sig
  by_cases h12 : ht < 0 ∨ 6 < ht
  · have hv : verS p ht msg sig = (0, 1) := by unfold verS; rw [if_pos h12]
    have gh : gHt [.int .i64 ht] [] = some (.bool false, [], 0) := by
      have : (decide (0 ≤ ht) && decide (ht ≤ 6)) = false := by rcases h12 with h | h <;> simp <;> omega
      show some (SV.bool (decide (0 ≤ ht) && decide (ht ≤ 6)), ([] : Mem), 0) = _
      rw [this]
    simp (config := { maxSteps := 1000000 }) only [cVp, tabVp, tbVp, ↓gh, hv, SV.flatL, SV.flat, lookF, reduceCtorEq, Nat.reduceEqDiff, Nat.reduceAdd, eq_self, frOf, ↓reduceIte, ↓evRes, Opd.ev, Sx.get, put, putO, del, dels, SV.cells?, retOf, canLW, canV, belowL, apH, SV.ren, newOwn, targets, rms, BB, ↓PB]
  have gh : gHt [.int .i64 ht] [] = some (.bool true, [], 0) := by
    have : (decide (0 ≤ ht) && decide (ht ≤ 6)) = true := by simp; omega
    show some (SV.bool (decide (0 ≤ ht) && decide (ht ≤ 6)), ([] : Mem), 0) = _
    rw [this]
  by_cases h3 : (msg.length : Int) > 1048576
  · have hv : verS p ht msg sig = (0, 2) := by unfold verS; rw [if_neg h12, if_pos (by omega)]
    simp (config := { maxSteps := 1000000 }) only [cVp, tabVp, tbVp, ↓gh, h3, hv, SV.flatL, SV.flat, lookF, reduceCtorEq, Nat.reduceEqDiff, Nat.reduceAdd, eq_self, frOf, ↓reduceIte, ↓binI, ↓evRes, Opd.ev, Sx.get, put, putO, del, dels, SV.cells?, retOf, canLW, canV, belowL, apH, SV.ren, newOwn, targets, rms, BB, ↓PB]
  obtain ⟨h, rfl⟩ : ∃ h : Nat, ht = (h : Int) := ⟨ht.toNat, by omega⟩
  have hh : h ≤ 6 := by omega
  have hv := verS_in (p := p) (msg := msg) (sig := sig) hh (by omega)
  simp (config := { maxSteps := 1000000 }) only [cVp, tabVp, tbVp, ↓gh, h3, SV.flatL, SV.flat, lookF, reduceCtorEq, Nat.reduceEqDiff, Nat.reduceAdd, eq_self, frOf, ↓reduceIte, ↓binI, Opd.ev, Sx.get, put, putO, del, dels, SV.cells?, canLW, canV, belowL, apH, SV.ren, newOwn, targets, rms, BB, ↓PB]
  refine ⟨[], _, _, _, _, _, f58 sig, rfl, trivial, trivial, trivial, by simp, ⟨fun _ => rfl, fun _ => rfl, fun _ => rfl, trivial⟩, ?_⟩
  simp (config := { maxSteps := 1000000 }) only [Nat.reduceEqDiff, Nat.reduceAdd, eq_self, ↓reduceIte, Opd.ev, Sx.get, put, putO, del, dels, eta, SV.ren, SV.renL, newOwn, targets, rms, Kind.isOwn, BB, ↓PB]
  refine call76 (e := 0) (o := 0) (l := sig.length) rfl rfl (by decide) ?_
  rcases hx : decS sig with ⟨i, u1, e1⟩
  have hb40 : sig.length ≤ 2 ^ 40 := by omega
  have g1 : gGetInt [.slc 0 0 1 sig.length none] [(0, ⟨.view, bys sig⟩)] = some (tup3 (i, u1, e1), [], 1) := by
    unfold gGetInt
    simp only [unB_bytes, capB, hb40, and_self, if_true, hx]
  simp only [sgOf, hx] at hv
  simp (config := { maxSteps := 1000000 }) only [↓g1, ls, ts, tup3, lookF, reduceCtorEq, Nat.reduceEqDiff, Nat.reduceSub, Nat.reduceLT, eq_self, ↓reduceIte, Opd.ev, Sx.get, put, putO, del, dels, rd, rm, canLW, canV, canC, belowL, apH, apH1, SV.ren, SV.renL, newOwn, targets, rms, Kind.isOwn, BB, ↓PB]
  rcases dec_err hx with ⟨rfl, hR, hu, _⟩ | ⟨he, rfl, rfl⟩
  case inr =>
    rw [if_pos he] at hv
    have he' : (e1 != 0) = true := by simpa using he
    have z3 : dgsN sig = 0 := cntC_err (by rw [hx]; exact he)
    rcases hy : bytS sig with ⟨s, u2, e2⟩
    have g2 : gGetBytes [.slc 0 0 1 sig.length none] [(0, ⟨.view, bys sig⟩)] = some (tupB (s, u2, e2), [], 1) := by
      unfold gGetBytes
      simp only [unB_bytes]
      rw [if_pos ⟨trivial, hb40⟩, hy]
    have g3 := gDgs_eq (b := sig) (by omega)
    simp only [dgsR, nlS_z z3, nlM_z z3, nlN_z z3] at g3
    refine call75 (b := sig) (o := 0) (e0 := 0) (e1 := e1) rfl rfl rfl (by decide) (Nat.zero_le _) (Or.inr ⟨rfl, Or.inl ⟨rfl, he, rfl⟩⟩) ?_
    simp (config := { maxSteps := 1000000 }) only [reduceCtorEq, Nat.reduceEqDiff, eq_self, ↓reduceIte, Opd.ev, Sx.get, put, putO, del, dels, rm, rms, BB, ↓PB]
    refine call76 (e := e1) (o := 0) (l := sig.length) rfl rfl (by decide) ?_
    simp (config := { maxSteps := 1000000 }) only [ls, ts, tupB, ↓g2, lookF, reduceCtorEq, Nat.reduceEqDiff, Nat.reduceSub, Nat.reduceLT, eq_self, ↓reduceIte, Opd.ev, Sx.get, put, putO, del, dels, rd, rm, canLW, canV, canC, belowL, apH, apH1, SV.ren, SV.renL, newOwn, targets, rms, Kind.isOwn, BB, ↓PB]
    refine call75 (b := sig) (o := 0) (e0 := e1) (e1 := e1) rfl rfl rfl (by decide) (Nat.zero_le _) (Or.inr ⟨rfl, Or.inr ⟨he, rfl⟩⟩) ?_
    simp (config := { maxSteps := 1000000 }) only [reduceCtorEq, Nat.reduceEqDiff, eq_self, ↓reduceIte, Opd.ev, Sx.get, put, putO, del, dels, rm, rms, BB, ↓PB]
    refine call76 (e := e1) (o := 0) (l := sig.length) rfl rfl (by decide) ?_
    simp (config := { maxSteps := 1000000 }) only [ls, ts, ↓g3, lookF, reduceCtorEq, Nat.reduceEqDiff, Nat.reduceSub, Nat.reduceLT, eq_self, ↓reduceIte, Opd.ev, Sx.get, put, putO, del, dels, rd, rm, canLW, canV, canC, belowL, apH, apH1, SV.ren, SV.renL, newOwn, targets, rms, Kind.isOwn, BB, ↓PB]
    refine call75 (b := sig) (o := 0) (e0 := e1) (e1 := e1) rfl rfl rfl (by decide) (Nat.zero_le _) (Or.inr ⟨rfl, Or.inr ⟨he, rfl⟩⟩) ?_
    simp (config := { maxSteps := 1000000 }) only [reduceCtorEq, Nat.reduceEqDiff, eq_self, ↓reduceIte, Opd.ev, Sx.get, put, putO, del, dels, rm, rms, BB, ↓PB]
    refine call76 (e := e1) (o := 0) (l := sig.length) rfl rfl (by decide) ?_
    simp (config := { maxSteps := 1000000 }) only [he', hv, reduceCtorEq, Nat.reduceEqDiff, eq_self, ↓reduceIte, ↓binI, ↓evRes, Opd.ev, Sx.get, put, putO, del, dels, rm, retOf, rms, BB, ↓PB]
  rw [if_neg (by simp)] at hv
  have lb1 : sig.length - u1 = (sig.drop u1).length := by simp
  have tb1 := take_drop_bys sig u1
  have k1 : u1 + (sig.drop u1).length ≤ sig.length := by simp; omega
  rcases hy : bytS (sig.drop u1) with ⟨s, u2, e2⟩
  have hb1 : (sig.drop u1).length ≤ 2 ^ 40 := by simp; omega
  have g2 : gGetBytes [.slc 0 0 1 (sig.drop u1).length none] [(0, ⟨.view, bys (sig.drop u1)⟩)] = some (tupB (s, u2, e2), [], 1) := by
    unfold gGetBytes
    simp only [unB_bytes]
    rw [if_pos ⟨trivial, hb1⟩, hy]
  simp only [hy] at hv
  refine call75 (b := sig) (o := 0) (e0 := 0) (e1 := 0) (D := .slc 3 u1 1 (sig.drop u1).length none) rfl rfl rfl (by decide) (Nat.zero_le _) (Or.inl ⟨rfl, rfl, u1, rfl, by simpa using hu, by rw [Nat.zero_add], rfl⟩) ?_
  simp (config := { maxSteps := 1000000 }) only [reduceCtorEq, Nat.reduceEqDiff, eq_self, ↓reduceIte, Opd.ev, Sx.get, put, putO, del, dels, rm, rms, BB, ↓PB]
  refine call76 (e := 0) (o := u1) (l := (sig.drop u1).length) rfl rfl (by decide) ?_
  simp (config := { maxSteps := 1000000 }) only [ls, tupB, k1, tb1, ↓g2, lookF, reduceCtorEq, Nat.reduceEqDiff, Nat.reduceSub, Nat.reduceLT, eq_self, ↓reduceIte, Opd.ev, Sx.get, put, putO, del, dels, rd, rm, canLW, canV, canC, belowL, apH, apH1, SV.ren, SV.renL, newOwn, targets, rms, Kind.isOwn, BB, ↓PB]
  by_cases he2 : e2 = 0
  case neg =>
    rw [if_pos he2] at hv
    have he' : (e2 != 0) = true := by simpa using he2
    have z3 := bytC_err hy he2
    have g3 := gDgs_eq (b := sig.drop u1) (by simp; omega)
    simp only [dgsR, nlS_z z3, nlM_z z3, nlN_z z3] at g3
    refine call75 (b := sig) (o := u1) (e0 := 0) (e1 := e2) rfl rfl rfl (by decide) hu (Or.inr ⟨rfl, Or.inl ⟨rfl, he2, rfl⟩⟩) ?_
    simp (config := { maxSteps := 1000000 }) only [reduceCtorEq, Nat.reduceEqDiff, eq_self, ↓reduceIte, Opd.ev, Sx.get, put, putO, del, dels, rm, rms, BB, ↓PB]
    refine call76 (e := e2) (o := u1) (l := (sig.drop u1).length) rfl rfl (by decide) ?_
    simp (config := { maxSteps := 1000000 }) only [ls, ↓g3, k1, tb1, lookF, reduceCtorEq, Nat.reduceEqDiff, Nat.reduceSub, Nat.reduceLT, eq_self, ↓reduceIte, Opd.ev, Sx.get, put, putO, del, dels, rd, rm, canLW, canV, canC, belowL, apH, apH1, SV.ren, SV.renL, newOwn, targets, rms, Kind.isOwn, BB, ↓PB]
    refine call75 (b := sig) (o := u1) (e0 := e2) (e1 := e2) rfl rfl rfl (by decide) hu (Or.inr ⟨rfl, Or.inr ⟨he2, rfl⟩⟩) ?_
    simp (config := { maxSteps := 1000000 }) only [reduceCtorEq, Nat.reduceEqDiff, eq_self, ↓reduceIte, Opd.ev, Sx.get, put, putO, del, dels, rm, rms, BB, ↓PB]
    refine call76 (e := e2) (o := u1) (l := (sig.drop u1).length) rfl rfl (by decide) ?_
    simp (config := { maxSteps := 1000000 }) only [he', hv, reduceCtorEq, Nat.reduceEqDiff, eq_self, ↓reduceIte, ↓binI, ↓evRes, Opd.ev, Sx.get, put, putO, del, dels, rm, retOf, rms, BB, ↓PB]
  subst he2
  rw [if_neg (by simp)] at hv
  have hu2 := byt_ok hy
  have hu12 : u1 + u2 ≤ sig.length := by simp at hu2; omega
  have tb2 := take_drop_bys sig (u1 + u2)
  have k2 : u1 + u2 + (sig.drop (u1 + u2)).length ≤ sig.length := by simp; omega
  have g3 := gDgs_eq (b := sig.drop (u1 + u2)) (by simp; omega)
  refine call75 (b := sig) (o := u1) (e0 := 0) (e1 := 0) (D := .slc 3 (u1 + u2) 1 (sig.drop (u1 + u2)).length none) rfl rfl rfl (by decide) hu (Or.inl ⟨rfl, rfl, u2, rfl, hu2, rfl, rfl⟩) ?_
  simp (config := { maxSteps := 1000000 }) only [reduceCtorEq, Nat.reduceEqDiff, eq_self, ↓reduceIte, Opd.ev, Sx.get, put, putO, del, dels, rm, rms, BB, ↓PB]
  refine call76 (e := 0) (o := (u1 + u2)) (l := (sig.drop (u1 + u2)).length) rfl rfl (by decide) ?_
  by_cases he3 : cntE (sig.drop (u1 + u2)) 16 = 0
  case neg =>
    rw [if_pos he3] at hv
    have he' : (cntE (sig.drop (u1 + u2)) 16 != 0) = true := by simpa using he3
    have z3 := gDgsz he3
    simp only [dgsR, nlS_z z3, nlM_z z3, nlN_z z3] at g3
    simp (config := { maxSteps := 1000000 }) only [ls, k2, tb2, ↓g3, lookF, reduceCtorEq, Nat.reduceEqDiff, Nat.reduceSub, Nat.reduceLT, eq_self, ↓reduceIte, Opd.ev, Sx.get, put, putO, del, dels, rd, rm, canLW, canV, canC, belowL, apH, apH1, SV.ren, SV.renL, newOwn, targets, rms, Kind.isOwn, BB, ↓PB]
    refine call75 (b := sig) (o := (u1 + u2)) (e0 := 0) (e1 := (cntE (sig.drop (u1 + u2)) 16)) rfl rfl rfl (by decide) hu12 (Or.inr ⟨rfl, Or.inl ⟨rfl, he3, rfl⟩⟩) ?_
    simp (config := { maxSteps := 1000000 }) only [reduceCtorEq, Nat.reduceEqDiff, eq_self, ↓reduceIte, Opd.ev, Sx.get, put, putO, del, dels, rm, rms, BB, ↓PB]
    refine call76 (e := (cntE (sig.drop (u1 + u2)) 16)) (o := (u1 + u2)) (l := (sig.drop (u1 + u2)).length) rfl rfl (by decide) ?_
    simp (config := { maxSteps := 1000000 }) only [he', hv, reduceCtorEq, Nat.reduceEqDiff, eq_self, ↓reduceIte, ↓binI, ↓evRes, Opd.ev, Sx.get, put, putO, del, dels, rm, retOf, rms, BB, ↓PB]
  rw [if_neg (by simpa using he3)] at hv
  obtain ⟨hu3, hxl⟩ := dgs_ok he3
  simp only [dgsR, he3] at g3
  generalize dgsX (sig.drop (u1 + u2)) = X at *
  generalize dgsU (sig.drop (u1 + u2)) = u3 at *
  generalize dgsN (sig.drop (u1 + u2)) = n at *
  have hu123 : u1 + u2 + u3 ≤ sig.length := by simp at hu3; omega
  have h0h : (0 : Int) ≤ (h : Int) := by omega
  have hc : (u1 + u2 + u3 ≠ sig.length ∨ i < 0 ∨ i ≥ P2 h ∨ (n : Int) ≠ (h : Int)) ∨ (u1 + u2 + u3 = sig.length ∧ 0 ≤ i ∧ i < P2 h ∧ n = h) := by omega
  have hsh := p2_shl hh
  have e64 := p2_le hh
  rcases Nat.eq_zero_or_pos n with hn | hn
  · simp only [nlS_z hn, nlM_z hn, nlN_z hn] at g3
    simp (config := { maxSteps := 1000000 }) only [ls, k2, tb2, ↓g3, lookF, reduceCtorEq, Nat.reduceEqDiff, Nat.reduceSub, Nat.reduceLT, eq_self, ↓reduceIte, Opd.ev, Sx.get, put, putO, del, dels, rd, rm, canLW, canV, canC, belowL, apH, apH1, SV.ren, SV.renL, newOwn, targets, rms, Kind.isOwn, BB, ↓PB]
    refine call75 (b := sig) (o := (u1 + u2)) (e0 := 0) (e1 := 0) (D := .slc 3 (u1 + u2 + u3) 1 (sig.drop (u1 + u2 + u3)).length none) rfl rfl rfl (by decide) hu12 (Or.inl ⟨rfl, rfl, u3, rfl, hu3, rfl, rfl⟩) ?_
    simp (config := { maxSteps := 1000000 }) only [reduceCtorEq, Nat.reduceEqDiff, eq_self, ↓reduceIte, Opd.ev, Sx.get, put, putO, del, dels, rm, rms, BB, ↓PB]
    refine call76 (e := 0) (o := (u1 + u2 + u3)) (l := (sig.drop (u1 + u2 + u3)).length) rfl rfl (by decide) ?_
    by_cases c1 : u1 + u2 + u3 = sig.length
    case neg =>
      rw [if_pos (Or.inl c1)] at hv
      have q1 : ((sig.drop (u1 + u2 + u3)).length : Int) > 0 := by simp; omega
      simp (config := { maxSteps := 1000000 }) only [q1, hv, undef, Int.reduceBNe, setv, reduceCtorEq, Nat.reduceEqDiff, eq_self, setv, ↓reduceIte, ↓binI, ↓evRes, Opd.ev, Sx.get, put, putO, del, dels, rm, retOf, rms, BB, ↓PB]
    have q1 : ¬ ((sig.drop (u1 + u2 + u3)).length : Int) > 0 := by simp; omega
    by_cases c2 : i < 0
    case pos =>
      rw [if_pos (Or.inr (Or.inl c2))] at hv
      simp (config := { maxSteps := 1000000 }) only [q1, c2, hv, undef, Int.reduceBNe, setv, reduceCtorEq, Nat.reduceEqDiff, eq_self, setv, ↓reduceIte, ↓binI, ↓evRes, Opd.ev, Sx.get, put, putO, del, dels, rm, retOf, rms, BB, ↓PB]
    by_cases c3 : i ≥ P2 h
    case pos =>
      rw [if_pos (Or.inr (Or.inr (Or.inl c3)))] at hv
      simp (config := { maxSteps := 1000000 }) only [q1, c2, c3, h0h, hsh, hv, undef, Int.reduceBNe, setv, reduceCtorEq, Nat.reduceEqDiff, eq_self, setv, ↓reduceIte, ↓binI, ↓evRes, Opd.ev, Sx.get, put, putO, del, dels, rm, retOf, rms, BB, ↓PB]
    by_cases c4 : n = h
    case neg =>
      rw [if_pos (by omega)] at hv
      have q2 : ((0 : Int) != (h : Int)) = true := by simp; omega
      simp (config := { maxSteps := 1000000 }) only [q1, q2, c2, c3, h0h, hsh, hv, Int.reduceBNe, setv, reduceCtorEq, Nat.reduceEqDiff, eq_self, setv, ↓reduceIte, ↓binI, ↓evRes, Opd.ev, Sx.get, put, putO, del, dels, rm, retOf, rms, BB, ↓PB]
    subst c4
    rw [if_neg (by omega)] at hv
    obtain ⟨k, rfl⟩ : ∃ k : Nat, i = (k : Int) := ⟨i.toNat, by omega⟩
    have kn : k < 2 ^ n := by have c9 : ((k : Nat) : Int) < ((2 ^ n : Nat) : Int) := Int.not_le.1 c3; exact_mod_cast c9
    have gd := gDig6_eq (p := p) (msg := msg) (i := (k : Int)) hp (by omega) hR.1 hR.2
    have hD := ofS_len 6 [p, encI (k : Int), msg]
    rw [Int.toNat_natCast] at hv
    generalize ofS 6 [p, encI (k : Int), msg] = D at *
    have lD : (bys D).length = 16 := by rw [len_bytes, hD]
    have tD := take16 hD
    have q2 : ((0 : Int) != (n : Int)) = false := by simp; omega
    by_cases h560 : s.length = 560
    case neg =>
      rw [if_pos h560] at hv
      have gr := gRec_no hD h560
      have z16l : zero16.length = 16 := by decide
      simp (config := { maxSteps := 1000000 }) only [q1, q2, c2, c3, h0h, hsh, lp, tp, ↓gd, ↓gr, z16l, hv, SV.flatL, SV.flat, undef, Int.reduceBNe, lookF, setv, reduceCtorEq, Nat.reduceEqDiff, Nat.reduceAdd, eq_self, setv, ↓reduceIte, ↓binI, ↓evRes, Opd.ev, Sx.get, put, putO, del, dels, rd, rm, upd, splice, SV.cells?, retOf, rms, BB, ↓PB]
    rw [if_neg (by omega)] at hv
    have gr := gRec_yes hD h560
    have hL : (recS D s).length = 16 := ofS_len _ _
    generalize recS D s = L at *
    have lL : (bys L).length = 16 := by rw [len_bytes, hL]
    have tL := take16 hL
    subst hn
    obtain rfl : k = 0 := by simpa using kn
    have gv := gVer_z (d := L) hp hL
    have hi0 : inK 0 L X 0 = ofM 1 [L] := rfl
    rw [hi0] at hv
    have hsh0 : IntKind.i64.wrap (1 * 2 ^ (min 0 IntKind.i64.bits)) = P2 0 := by decide
    have c30 : ¬ (0 : Int) ≥ P2 0 := by decide
    have n0 : ((0 : Nat) : Int) = 0 := rfl
    rw [n0] at hv gd
    generalize hB : (shS (ofM 1 [L]) == p) = B at *
    cases B
    · simp only [Bool.false_eq_true, if_false] at hv
      simp (config := { maxSteps := 1000000 }) only [q1, hsh0, c30, lp, tp, ↓gd, ↓gr, ↓gv, lL, tL, n0, hv, SV.flatL, SV.flat, Int.reduceBNe, lookF, setv, reduceCtorEq, Nat.reduceEqDiff, Nat.reduceAdd, Int.reduceToNat, Int.reduceLT, Int.reduceLE, eq_self, setv, ↓reduceIte, ↓binI, ↓evRes, Opd.ev, Sx.get, put, putO, del, dels, rd, rm, upd, splice, SV.cells?, retOf, canLW, canV, canC, belowL, apH, SV.ren, newOwn, targets, rms, BB, ↓PB]
    · simp only [if_true] at hv
      simp (config := { maxSteps := 1000000 }) only [q1, hsh0, c30, lp, tp, ↓gd, ↓gr, ↓gv, lL, tL, n0, hv, SV.flatL, SV.flat, Int.reduceBNe, lookF, setv, reduceCtorEq, Nat.reduceEqDiff, Nat.reduceAdd, Int.reduceToNat, Int.reduceLT, Int.reduceLE, eq_self, setv, ↓reduceIte, ↓binI, ↓evRes, Opd.ev, Sx.get, put, putO, del, dels, rd, rm, upd, splice, SV.cells?, retOf, canLW, canV, canC, belowL, apH, SV.ren, newOwn, targets, rms, BB, ↓PB]
  · simp only [nlS_p hn, nlM_p hn, nlN_p hn] at g3
    simp (config := { maxSteps := 1000000 }) only [ls, k2, tb2, ↓g3, lookF, reduceCtorEq, Nat.reduceEqDiff, Nat.reduceAdd, Nat.reduceSub, Nat.reduceLT, eq_self, ↓reduceIte, Opd.ev, Sx.get, put, putO, del, dels, rd, rm, canLW, canV, canC, belowL, apH, apH1, eta, SV.ren, SV.renL, newOwn, targets, rms, Kind.isOwn, BB, ↓PB]
    refine call75 (b := sig) (o := (u1 + u2)) (e0 := 0) (e1 := 0) (D := .slc 3 (u1 + u2 + u3) 1 (sig.drop (u1 + u2 + u3)).length none) rfl rfl rfl (by decide) hu12 (Or.inl ⟨rfl, rfl, u3, rfl, hu3, rfl, rfl⟩) ?_
    simp (config := { maxSteps := 1000000 }) only [reduceCtorEq, Nat.reduceEqDiff, eq_self, ↓reduceIte, Opd.ev, Sx.get, put, putO, del, dels, rm, rms, BB, ↓PB]
    refine call76 (e := 0) (o := (u1 + u2 + u3)) (l := (sig.drop (u1 + u2 + u3)).length) rfl rfl (by decide) ?_
    by_cases c1 : u1 + u2 + u3 = sig.length
    case neg =>
      rw [if_pos (Or.inl c1)] at hv
      have q1 : ((sig.drop (u1 + u2 + u3)).length : Int) > 0 := by simp; omega
      simp (config := { maxSteps := 1000000 }) only [q1, hv, undef, Int.reduceBNe, setv, reduceCtorEq, Nat.reduceEqDiff, eq_self, setv, ↓reduceIte, ↓binI, ↓evRes, Opd.ev, Sx.get, put, putO, del, dels, rm, retOf, rms, BB, ↓PB]
    have q1 : ¬ ((sig.drop (u1 + u2 + u3)).length : Int) > 0 := by simp; omega
    by_cases c2 : i < 0
    case pos =>
      rw [if_pos (Or.inr (Or.inl c2))] at hv
      simp (config := { maxSteps := 1000000 }) only [q1, c2, hv, undef, Int.reduceBNe, setv, reduceCtorEq, Nat.reduceEqDiff, eq_self, setv, ↓reduceIte, ↓binI, ↓evRes, Opd.ev, Sx.get, put, putO, del, dels, rm, retOf, rms, BB, ↓PB]
    by_cases c3 : i ≥ P2 h
    case pos =>
      rw [if_pos (Or.inr (Or.inr (Or.inl c3)))] at hv
      simp (config := { maxSteps := 1000000 }) only [q1, c2, c3, h0h, hsh, hv, undef, Int.reduceBNe, setv, reduceCtorEq, Nat.reduceEqDiff, eq_self, setv, ↓reduceIte, ↓binI, ↓evRes, Opd.ev, Sx.get, put, putO, del, dels, rm, retOf, rms, BB, ↓PB]
    by_cases c4 : n = h
    case neg =>
      rw [if_pos (by omega)] at hv
      have q2 : ((n : Int) != (h : Int)) = true := by simp; omega
      simp (config := { maxSteps := 1000000 }) only [q1, q2, c2, c3, h0h, hsh, hv, Int.reduceBNe, setv, reduceCtorEq, Nat.reduceEqDiff, eq_self, setv, ↓reduceIte, ↓binI, ↓evRes, Opd.ev, Sx.get, put, putO, del, dels, rm, retOf, rms, BB, ↓PB]
    subst c4
    rw [if_neg (by omega)] at hv
    obtain ⟨k, rfl⟩ : ∃ k : Nat, i = (k : Int) := ⟨i.toNat, by omega⟩
    have kn : k < 2 ^ n := by have c9 : ((k : Nat) : Int) < ((2 ^ n : Nat) : Int) := Int.not_le.1 c3; exact_mod_cast c9
    have gd := gDig6_eq (p := p) (msg := msg) (i := (k : Int)) hp (by omega) hR.1 hR.2
    have hD := ofS_len 6 [p, encI (k : Int), msg]
    rw [Int.toNat_natCast] at hv
    generalize ofS 6 [p, encI (k : Int), msg] = D at *
    have lD : (bys D).length = 16 := by rw [len_bytes, hD]
    have tD := take16 hD
    have q2 : ((n : Int) != (n : Int)) = false := by simp
    by_cases h560 : s.length = 560
    case neg =>
      rw [if_pos h560] at hv
      have gr := gRec_no hD h560
      have z16l : zero16.length = 16 := by decide
      simp (config := { maxSteps := 1000000 }) only [q1, q2, c2, c3, h0h, hsh, lp, tp, ↓gd, ↓gr, z16l, hv, SV.flatL, SV.flat, undef, Int.reduceBNe, lookF, setv, reduceCtorEq, Nat.reduceEqDiff, Nat.reduceAdd, eq_self, setv, ↓reduceIte, ↓binI, ↓evRes, Opd.ev, Sx.get, put, putO, del, dels, rd, rm, upd, splice, SV.cells?, retOf, rms, BB, ↓PB]
    rw [if_neg (by omega)] at hv
    have gr := gRec_yes hD h560
    have hL : (recS D s).length = 16 := ofS_len _ _
    generalize recS D s = L at *
    have lL : (bys L).length = 16 := by rw [len_bytes, hL]
    have tL := take16 hL
    have gv := gVer_eq (d := L) hp hh hn kn hL hxl
    have lX : (bys X).length = 16 * n := by rw [len_bytes, hxl]
    have tX : List.take (16 * n) (bys X) = bys X := List.take_of_length_le (by omega)
    have tX2 : List.take (n * 16) (bys X) = bys X := List.take_of_length_le (by omega)
    have b16 : n * 16 ≤ 16 * n := by omega
    generalize hB : (shS (inK k L X n) == p) = B at *
    cases B
    · simp only [Bool.false_eq_true, if_false] at hv
      simp (config := { maxSteps := 1000000 }) only [q1, q2, hsh, c2, c3, h0h, lp, tp, ↓gd, ↓gr, ↓gv, lL, tL, lX, tX2, b16, hv, SV.flatL, SV.flat, Int.reduceBNe, lookF, setv, reduceCtorEq, Nat.reduceEqDiff, Nat.reduceAdd, Nat.reduceSub, Nat.reduceLT, eq_self, setv, ↓reduceIte, ↓binI, ↓evRes, Opd.ev, Sx.get, put, putO, del, dels, rd, rm, upd, splice, SV.cells?, retOf, canLW, canV, canC, belowL, apH, apH1, SV.ren, newOwn, targets, rms, Kind.isOwn, BB, ↓PB]
    · simp only [if_true] at hv
      simp (config := { maxSteps := 1000000 }) only [q1, q2, hsh, c2, c3, h0h, lp, tp, ↓gd, ↓gr, ↓gv, lL, tL, lX, tX2, b16, hv, SV.flatL, SV.flat, Int.reduceBNe, lookF, setv, reduceCtorEq, Nat.reduceEqDiff, Nat.reduceAdd, Nat.reduceSub, Nat.reduceLT, eq_self, setv, ↓reduceIte, ↓binI, ↓evRes, Opd.ev, Sx.get, put, putO, del, dels, rd, rm, upd, splice, SV.cells?, retOf, canLW, canV, canC, belowL, apH, apH1, SV.ren, newOwn, targets, rms, Kind.isOwn, BB, ↓PB]
end Go.Proofs.YtkfbkooobfepeaaDoor

/- Package wire and the reference: the reading of lists of integers. -/
namespace Go.Proofs.YtkfbkooobfepeaaDoor
open Go Go.Sx Sf
set_option maxRecDepth 100000
set_option linter.unusedVariables false
variable {tS : List (Nat × List SV)}
def rI (i : Nat) (x : List Int × Nat × Int) : SV := .tup [nlS i 1 x.1.length, .int .i64 (x.2.1 : Int), .int .i64 x.2.2]
end Go.Proofs.YtkfbkooobfepeaaDoor

/- The reader of package custodian. -/
namespace Go.Proofs.YtkfbkooobfepeaaDoor
open Go Go.Sx Sf
set_option maxRecDepth 100000
set_option linter.unusedVariables false
variable {tS : List (Nat × List SV)}
def rdB (o len : Nat) (e : Int) : Blk := ⟨.own 68, [.slc 1 o 1 len none, .int .i64 e]⟩
end Go.Proofs.YtkfbkooobfepeaaDoor

/- The reader of package custodian: the parts of a member. -/
namespace Go.Proofs.YtkfbkooobfepeaaDoor
open Go Go.Sx Sf
set_option maxRecDepth 100000
set_option linter.unusedVariables false
variable {tS : List (Nat × List SV)}
theorem Pub.take {l : List Mb} (h : Pub l) (i : Nat) : Pub (l.take i) := fun m hm => h m (List.mem_of_mem_take hm)
theorem Pub.set {ms : List Mb} {i : Nat} {m : Mb} (hP : Pub ms) (hm : m.pub.length = 16) : Pub (ms.set i m) := fun x hx => by
  rcases List.mem_or_eq_of_mem_set hx with h | h
  · exact hP x h
  · rw [h]; exact hm

structure RS where
  rest : List UInt8
  e : Int
  ms : List Mb
def RS.name (i : Nat) (m : Mb) (s : RS) : RS := if s.e ≠ 0 then s else if (bytS s.rest).2.2 ≠ 0 then { s with e := (bytS s.rest).2.2 } else ⟨s.rest.drop (bytS s.rest).2.1, 0, s.ms.set i { m with name := (bytS s.rest).1 }⟩
def RS.pub (i : Nat) (m : Mb) (s : RS) : RS := if s.e ≠ 0 then s else if s.rest.length < 16 then { s with e := 5 } else ⟨s.rest.drop 16, 0, s.ms.set i { m with pub := s.rest.take 16 }⟩
def RS.height (i : Nat) (m : Mb) (s : RS) : RS := if s.e ≠ 0 then s else if (decS s.rest).2.2 ≠ 0 then { s with e := (decS s.rest).2.2 } else ⟨s.rest.drop (decS s.rest).2.1, 0, s.ms.set i { m with h := (decS s.rest).1 }⟩
def RS.mem (b : List UInt8) (t : RS) : Mem := [(0, rdB (b.length - t.rest.length) t.rest.length t.e), (2, ⟨.own 47, mcs t.ms⟩)]
theorem byt_err {b : List UInt8} {s : List UInt8} {u : Nat} {e : Int} (h : bytS b = (s, u, e)) : (e = 0 ∧ u ≤ b.length ∧ 0 < u) ∨ (e ≠ 0 ∧ u = 0) := by
  unfold bytS at h
  by_cases he : cntE b 1 = 0
  · rw [if_neg (by simpa using he)] at h
    obtain ⟨n, q, hx, h1, h2, h3⟩ := cnt_ok he
    rw [hx] at h
    simp only [Prod.mk.injEq, Int.toNat_natCast] at h
    rw [Nat.div_one] at h2
    obtain ⟨_, rfl, rfl⟩ := h
    exact .inl ⟨rfl, by omega, by omega⟩
  · rw [if_pos he] at h
    simp only [Prod.mk.injEq] at h
    obtain ⟨_, rfl, rfl⟩ := h
    exact .inr ⟨he, rfl⟩
end Go.Proofs.YtkfbkooobfepeaaDoor

/- Decode of package custodian. -/
namespace Go.Proofs.YtkfbkooobfepeaaDoor
open Go Go.Sx Sf
set_option maxRecDepth 100000
set_option linter.unusedVariables false
variable {tS : List (Nat × List SV)}
def zM : Mb := ⟨[], List.replicate 16 0, 0⟩
def RS.p1 (i : Nat) (s : RS) : RS := s.name i (s.ms.getD i zM)
def RS.p2 (i : Nat) (s : RS) : RS := (s.p1 i).pub i ((s.p1 i).ms.getD i zM)
def RS.one (i : Nat) (s : RS) : RS := (s.p2 i).height i ((s.p2 i).ms.getD i zM)
def RS.part (i : Nat) (s : RS) : Nat → RS
  | 0 => s
  | 1 => s.p1 i
  | 2 => s.p2 i
  | _ => s.one i
def SInv (t : List UInt8) (n : Nat) (s : RS) : Prop := s.ms.length = n ∧ Pub s.ms ∧ s.rest = t.drop (t.length - s.rest.length) ∧ s.rest.length ≤ t.length
theorem drop_inv {t r : List UInt8} {k : Nat} (h : r = t.drop (t.length - r.length)) (hl : r.length ≤ t.length) (hk : k ≤ r.length) : r.drop k = t.drop (t.length - (r.drop k).length) ∧ (r.drop k).length ≤ t.length := by
  have h1 : (r.drop k).length = r.length - k := by simp
  rw [h1]
  refine ⟨?_, by omega⟩
  conv => lhs; rw [h]
  rw [List.drop_drop]
  congr 1; omega
theorem pub_of {ms : List Mb} {i : Nat} (h : Pub ms) : (ms.getD i zM).pub.length = 16 := by
  rw [List.getD_eq_getElem?_getD]
  cases hq : ms[i]? with
  | none => simp [zM]
  | some m => exact h m (List.mem_of_getElem? hq)
theorem SInv.name {t : List UInt8} {n i : Nat} {s : RS} (h : SInv t n s) : SInv t n (s.name i (s.ms.getD i zM)) := by
  obtain ⟨h1, h2, h3, h4⟩ := h
  unfold RS.name
  split
  · exact ⟨h1, h2, h3, h4⟩
  · split
    · exact ⟨h1, h2, h3, h4⟩
    · rcases hx : bytS s.rest with ⟨q, u, e⟩
      have hu : u ≤ s.rest.length := by rcases byt_err hx with ⟨_, h, _⟩ | ⟨_, h⟩ <;> omega
      exact ⟨by simpa using h1, h2.set (pub_of h2), drop_inv h3 h4 hu⟩
theorem SInv.pub {t : List UInt8} {n i : Nat} {s : RS} (h : SInv t n s) : SInv t n (s.pub i (s.ms.getD i zM)) := by
  obtain ⟨h1, h2, h3, h4⟩ := h
  unfold RS.pub
  split
  · exact ⟨h1, h2, h3, h4⟩
  · split
    · exact ⟨h1, h2, h3, h4⟩
    · exact ⟨by simpa using h1, h2.set (by simp; omega), drop_inv h3 h4 (by omega)⟩
theorem SInv.height {t : List UInt8} {n i : Nat} {s : RS} (h : SInv t n s) : SInv t n (s.height i (s.ms.getD i zM)) := by
  obtain ⟨h1, h2, h3, h4⟩ := h
  unfold RS.height
  split
  · exact ⟨h1, h2, h3, h4⟩
  · split
    · exact ⟨h1, h2, h3, h4⟩
    · rcases hx : decS s.rest with ⟨q, u, e⟩
      have hu : u ≤ s.rest.length := by rcases dec_err hx with ⟨_, _, h, _⟩ | ⟨_, _, h⟩ <;> omega
      exact ⟨by simpa using h1, h2.set (pub_of h2), drop_inv h3 h4 hu⟩
theorem SInv.part {t : List UInt8} {n i : Nat} {s : RS} (h : SInv t n s) : ∀ j, SInv t n (s.part i j)
  | 0 => h
  | 1 => h.name
  | 2 => (SInv.name h).pub
  | _ + 3 => (SInv.pub (SInv.name h)).height
end Go.Proofs.YtkfbkooobfepeaaDoor

/- Clone and Replace of members. -/
namespace Go.Sx
open Go
end Go.Sx
namespace Go.Proofs.YtkfbkooobfepeaaDoor
open Go Go.Sx Sf
set_option maxRecDepth 100000
set_option linter.unusedVariables false
variable {tS : List (Nat × List SV)}
end Go.Proofs.YtkfbkooobfepeaaDoor

/- The sanity of the laws, carried out. -/
namespace Go.Proofs.YtkfbkooobfepeaaDoor
open Go Go.Sx Sf
set_option maxRecDepth 100000
set_option linter.unusedVariables false
def tbL : List (FuncId × SF) := [(9, sf9), (10, sf10), (12, sf12), (14, sf14), (15, sf15), (16, sf16), (18, sf18), (20, sf20), (22, sf22), (24, sf24), (26, sf26), (28, sf28), (29, sf29), (30, sf30), (31, sf31), (32, sf32), (33, sf33), (34, sf34), (39, sf39), (41, sf41), (43, sf43), (44, sf44), (45, sf45), (46, sf46), (47, sf47), (51, sf51), (52, sf52), (53, sf53), (54, sf54), (57, sf57), (58, sf58), (59, sf59), (60, sf60), (61, sf61), (69, sf69), (70, sf70), (75, sf75), (76, sf76), (85, sf85)]
def tb : FuncId → Option SF := lookF tbL
theorem tb_ok : TbOk Tryd.prog tb := by
  intro f sf h
  have hm := lookF_mem h
  simp only [tbL, List.mem_cons, Prod.mk.injEq, List.not_mem_nil, or_false] at hm
  rcases hm with ⟨rfl, rfl⟩ | ⟨rfl, rfl⟩ | ⟨rfl, rfl⟩ | ⟨rfl, rfl⟩ | ⟨rfl, rfl⟩ | ⟨rfl, rfl⟩ | ⟨rfl, rfl⟩ | ⟨rfl, rfl⟩ | ⟨rfl, rfl⟩ | ⟨rfl, rfl⟩ | ⟨rfl, rfl⟩ | ⟨rfl, rfl⟩ | ⟨rfl, rfl⟩ | ⟨rfl, rfl⟩ | ⟨rfl, rfl⟩ | ⟨rfl, rfl⟩ | ⟨rfl, rfl⟩ | ⟨rfl, rfl⟩ | ⟨rfl, rfl⟩ | ⟨rfl, rfl⟩ | ⟨rfl, rfl⟩ | ⟨rfl, rfl⟩ | ⟨rfl, rfl⟩ | ⟨rfl, rfl⟩ | ⟨rfl, rfl⟩ | ⟨rfl, rfl⟩ | ⟨rfl, rfl⟩ | ⟨rfl, rfl⟩ | ⟨rfl, rfl⟩ | ⟨rfl, rfl⟩ | ⟨rfl, rfl⟩ | ⟨rfl, rfl⟩ | ⟨rfl, rfl⟩ | ⟨rfl, rfl⟩ | ⟨rfl, rfl⟩ | ⟨rfl, rfl⟩ | ⟨rfl, rfl⟩ | ⟨rfl, rfl⟩ | ⟨rfl, rfl⟩
  · exact chk9
  · exact chk10
  · exact chk12
  · exact chk14
  · exact chk15
  · exact chk16
  · exact chk18
  · exact chk20
  · exact chk22
  · exact chk24
  · exact chk26
  · exact chk28
  · exact chk29
  · exact chk30
  · exact chk31
  · exact chk32
  · exact chk33
  · exact chk34
  · exact chk39
  · exact chk41
  · exact chk43
  · exact chk44
  · exact chk45
  · exact chk46
  · exact chk47
  · exact chk51
  · exact chk52
  · exact chk53
  · exact chk54
  · exact chk57
  · exact chk58
  · exact chk59
  · exact chk60
  · exact chk61
  · exact chk69
  · exact chk70
  · exact chk75
  · exact chk76
  · exact chk85
end Go.Proofs.YtkfbkooobfepeaaDoor

/- The sanity of the laws: true. -/
namespace Go.Proofs.YtkfbkooobfepeaaDoor
open Go Go.Sx Sf
set_option maxRecDepth 100000
theorem sane_run : runF tb tH (runS [(73, g73)]) 300 30 9 [] [] 0 = some (.bool true, [], 0) := by kernel_rfl
theorem sane_x : runS [(73, g73)] 9 [] [] 0 = none := rfl
theorem f9 : Fun Tryd.prog tH 9 [] [] 0 (.bool true) [] 0 :=
  fun_of_run tb_ok (runS_ok (fun x h => by simp only [List.mem_singleton] at h; subst h; exact g73_ok)) sane_x sane_run
def gSane : GS
  | [], [] => some (.bool true, [], 0)
  | _, _ => none
theorem gSane_ok : FunS Tryd.prog tH 9 gSane := by
  intro a0 m0 r m1 n1 h
  unfold gSane at h
  split at h
  · cases h; exact ⟨f9, by simp [freshB]⟩
  · cases h
end Go.Proofs.YtkfbkooobfepeaaDoor

/- The law CustodianReplaced: it computes true. -/
namespace Go.Proofs.YtkfbkooobfepeaaDoor
open Go Go.Sx Sf
set_option maxRecDepth 100000
set_option linter.unusedSimpArgs false
set_option linter.unusedVariables false
theorem few_len {l : List Mb} (h : fewB l = true) : l.length ≤ 20 := by
  unfold fewB at h; simp only [Bool.and_eq_true, decide_eq_true_eq] at h; exact h.2

end Go.Proofs.YtkfbkooobfepeaaDoor

/- The reference's Valid, and Same. -/
namespace Go.Proofs.YtkfbkooobfepeaaDoor
open Go Go.Sx Sf
set_option maxRecDepth 100000
set_option linter.unusedVariables false
variable {tS : List (Nat × List SV)}
end Go.Proofs.YtkfbkooobfepeaaDoor

/- Same of custodians. -/
namespace Go.Proofs.YtkfbkooobfepeaaDoor
open Go Go.Sx Sf
set_option maxRecDepth 100000
set_option linter.unusedVariables false
variable {tS : List (Nat × List SV)}
instance decMb : DecidableEq Mb := fun a b => if h : eqM a b = true then isTrue (eqM_iff.1 h) else isFalse (fun h' => h (eqM_iff.2 h'))
end Go.Proofs.YtkfbkooobfepeaaDoor

/- Encode of package custodian. -/
namespace Go.Proofs.YtkfbkooobfepeaaDoor
open Go Go.Sx Sf
set_option maxRecDepth 100000
set_option linter.unusedVariables false
variable {tS : List (Nat × List SV)}
end Go.Proofs.YtkfbkooobfepeaaDoor

/- Decode of the reference. -/
namespace Go.Proofs.YtkfbkooobfepeaaDoor
open Go Go.Sx Sf
set_option maxRecDepth 100000
set_option linter.unusedVariables false
variable {tS : List (Nat × List SV)}
end Go.Proofs.YtkfbkooobfepeaaDoor

/- The plain law of Decode and Encode: the two Decodes are the same, and they undo Encode. -/
namespace Go.Proofs.YtkfbkooobfepeaaDoor
open Go Go.Sx Sf
set_option maxRecDepth 100000
set_option linter.unusedSimpArgs false
set_option linter.unusedVariables false
end Go.Proofs.YtkfbkooobfepeaaDoor

/- The round trip of Decode and Encode. -/
namespace Go.Proofs.YtkfbkooobfepeaaDoor
open Go Go.Sx Sf
set_option maxRecDepth 100000
set_option linter.unusedVariables false
end Go.Proofs.YtkfbkooobfepeaaDoor

/- The law CustodianDecode: it computes true. -/
namespace Go.Proofs.YtkfbkooobfepeaaDoor
open Go Go.Sx Sf
set_option maxRecDepth 100000
set_option linter.unusedVariables false
variable {tS : List (Nat × List SV)}
end Go.Proofs.YtkfbkooobfepeaaDoor
