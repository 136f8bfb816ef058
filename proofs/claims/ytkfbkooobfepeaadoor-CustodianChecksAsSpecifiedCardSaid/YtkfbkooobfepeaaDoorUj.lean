/- The proof, part Uj: the texts LawK, LawM, LawE, LawF. -/
import Derived.Test.YtkfbkooobfepeaaDoorUi
import Derived.Test.YtkfbkooobfepeaaDoorCards
import Derived.Test.YtkfbkooobfepeaaDoorTie
import Derived.RowKit
import Derived.ProofKit
import Derived.Deep.DeepHandedRow
set_option linter.unusedSimpArgs false
set_option linter.unusedVariables false
/- What the laws of layer 30 need of the seat: the tables, a world for the witness. -/
namespace Go.Proofs.YtkfbkooobfepeaaDoor
open Go Go.Sx Go.ChangeShapes Go.WideShapes
set_option maxRecDepth 100000
set_option linter.unusedSimpArgs false
set_option linter.unusedVariables false
theorem own : ownKnob Tryd.prog.godebug = none := by kernel_rfl
def nHash : String := (Rows.custodianStatementsRow.laid.map (·.1)).headD default
theorem gHash : Tryd.prog.globalNamed nHash = some 0 := by kernel_rfl
theorem gHashType : (Tryd.prog.globals[0]?).map (·.type) = some 121 := by kernel_rfl
theorem flatHash : flatT Tryd.prog 5 121 = some 64 := by kernel_rfl
theorem litsHash : (litsOf (H := Unit) Rows.laid_custody_hash_constants).length = 64 := by rfl
theorem convHash : (litsOf (H := Unit) Rows.laid_custody_hash_constants).map convV = kc.map u32 := by rfl
theorem boolT : Tryd.prog.underlying 4 = some .bool := by kernel_rfl
theorem u8_range {n : Int} (h : (Lit.int .u8 n).wf = true) : 0 ≤ n ∧ n < 256 := by
  simp [Lit.wf, IntKind.min, IntKind.max, IntKind.signed, IntKind.bits] at h; omega
theorem i64_range {n : Int} (h : (Lit.int .i64 n).wf = true) : R64 n := by
  simp [Lit.wf, IntKind.min, IntKind.max, IntKind.signed, IntKind.bits] at h
  unfold R64; omega

noncomputable def laidWorld (os : Os) : World :=
  { World.holding Tryd.prog os ⟨#[], #[], []⟩ with heap := (World.holding Tryd.prog os ⟨#[], #[], []⟩).heap.modify 0 fun
      | .cells _ t frozen => .cells (litsOf (H := Unit) Rows.laid_custody_hash_constants).toArray t frozen
      | o => o }

end Go.Proofs.YtkfbkooobfepeaaDoor

/- Members among the arguments of a law. -/
namespace Go.Proofs.YtkfbkooobfepeaaDoor
open Go Go.Sx Sf
set_option maxRecDepth 100000
set_option linter.unusedSimpArgs false
set_option linter.unusedVariables false
def Good (l : List Mb) : Prop := ∀ m ∈ l, m.pub.length = 16 ∧ R64 m.h ∧ m.name.length ≤ 9223372036854775807
theorem Good.pub {l : List Mb} (h : Good l) : Pub l := fun m hm => (h m hm).1
def tgM : List Tag := .s :: (List.replicate 16 (.i .u8) ++ [.i .i64])
theorem tags_u8s {ks : List Tag} : ∀ (k : Nat) {vs : List SV}, TagsSV (List.replicate k (.i .u8) ++ ks) vs → ∃ (d : List UInt8) (vs' : List SV), d.length = k ∧ vs = bys d ++ vs' ∧ TagsSV ks vs'
  | 0, vs, h => ⟨[], vs, rfl, rfl, h⟩
  | k + 1, vs, h => by
    rw [List.replicate_succ, List.cons_append] at h
    simp only [TagsSV, TagSV] at h
    obtain ⟨v, r, rfl, ⟨x, rfl, hx⟩, h⟩ := h
    obtain ⟨d, vs', h1, rfl, h2⟩ := tags_u8s k h
    refine ⟨UInt8.ofNat x.toNat :: d, vs', by simp [h1], ?_, h2⟩
    rw [u8_byte (u8_range hx)]
    rfl
theorem rows_mcs : ∀ (len : Nat) {cells : List SV}, RowsSV tgM len cells → ∃ l, l.length = len ∧ cells = mcs l ∧ Good l
  | 0, cells, h => ⟨[], rfl, h, by simp [Good]⟩
  | len + 1, cells, h => by
    obtain ⟨r, cs', rfl, hr, h⟩ := h
    obtain ⟨l, h1, rfl, h2⟩ := rows_mcs len h
    unfold tgM at hr
    simp only [TagsSV, TagSV] at hr
    obtain ⟨_, r1, q0, ⟨s, q1, hs⟩, hr1⟩ := hr
    obtain ⟨p, vs', hp, q2, hr2⟩ := tags_u8s 16 hr1
    simp only [TagsSV, TagSV] at hr2
    obtain ⟨_, r2, q3, ⟨x, q4, hx⟩, q5⟩ := hr2
    subst q5; subst q4; subst q3; subst q2; subst q1; subst q0
    refine ⟨⟨s, p, x⟩ :: l, by simp [h1], rfl, ?_⟩
    intro m hm
    rcases List.mem_cons.1 hm with rfl | hm
    · exact ⟨hp, i64_range hx, by unfold maxLen at hs; exact hs⟩
    · exact h2 m hm
end Go.Proofs.YtkfbkooobfepeaaDoor

/- The two tables of constants that two laws of layer 30 read. -/
namespace Go.Proofs.YtkfbkooobfepeaaDoor
open Go Go.Sx Go.ChangeShapes Go.WideShapes
set_option maxRecDepth 100000
set_option linter.unusedSimpArgs false
set_option linter.unusedVariables false
def nRef : String := (Rows.custodianMatchesSpecRow.laid.map (·.1)).headD default
theorem gRef : Tryd.prog.globalNamed nRef = some 1 := by kernel_rfl
theorem gRefType : (Tryd.prog.globals[1]?).map (·.type) = some 121 := by kernel_rfl
theorem litsRef : (litsOf (H := Unit) Rows.laid_custody_custodyref02_constants).length = 64 := by rfl
theorem convRef : (litsOf (H := Unit) Rows.laid_custody_custodyref02_constants).map convV = kc.map u32 := by rfl
theorem table2 {W : World} (h : laidMet Tryd.prog Rows.custodianMatchesSpecRow.laid W) : TabOk tH2 W := by
  obtain ⟨ps, h, _⟩ := h
  intro g cs hm
  simp only [tH2, List.mem_cons, List.not_mem_nil, or_false] at hm
  rcases hm with hm | hm
  · cases hm
    rw [← convHash]
    exact tab_of_laid h (name := nHash) (List.mem_cons_of_mem _ List.mem_cons_self) gHash gHashType flatHash litsHash (by decide)
  · cases hm
    rw [← convRef]
    exact tab_of_laid h (name := nRef) List.mem_cons_self gRef gRefType flatHash litsRef (by decide)
theorem table20 {W : World} (h : laidMet Tryd.prog Rows.custodianMatchesSpecRow.laid W) : 0 < W.heap.size :=
  (table2 h 0 _ List.mem_cons_self).1
noncomputable def laidWorld2 (os : Os) : World :=
  { laidWorld os with heap := (laidWorld os).heap.modify 1 fun
      | .cells _ t frozen => .cells (litsOf (H := Unit) Rows.laid_custody_custodyref02_constants).toArray t frozen
      | o => o }
end Go.Proofs.YtkfbkooobfepeaaDoor

/- The law CustodianChecksAsSpecified: it computes true. -/
namespace Go.Proofs.YtkfbkooobfepeaaDoor
open Go Go.Sx Sf
set_option maxRecDepth 100000
set_option linter.unusedVariables false
section
variable {T : List (Nat × List SV)} {call : CallT} {fr0 : Fr} {m0 : Mem} {r : List Opr} {done : List Dn} {n : Nat} {K : List Dn → Nat → Prop} {d : Option Nat} {op : SOp} {ks p h : List Nat} {g : Nat} {b : Bool}
end
def chkS (l : List Mb) (i : Int) (msg sig : List UInt8) : Int × Int :=
  if i < 0 then (0, 11) else match l[i.toNat]? with
    | some m => verS m.pub m.h msg sig
    | none => (0, 11)
def chkT (l : List Mb) (i : Int) (msg sig : List UInt8) : SV := .tup [.int .i64 (chkS l i msg sig).1, .int .i64 (chkS l i msg sig).2]
theorem chk_neg {l : List Mb} {i : Int} {msg sig : List UInt8} (h : i < 0) : chkS l i msg sig = (0, 11) := by unfold chkS; rw [if_pos h]
theorem chk_big {l : List Mb} {i : Int} {msg sig : List UInt8} (h0 : ¬ i < 0) (h : i ≥ (l.length : Int)) : chkS l i msg sig = (0, 11) := by
  unfold chkS
  rw [if_neg h0, List.getElem?_eq_none (by omega)]
theorem chk_at {l : List Mb} {k : Nat} {m : Mb} {msg sig : List UInt8} (h : l[k]? = some m) : chkS l (k : Int) msg sig = verS m.pub m.h msg sig := by
  unfold chkS
  rw [if_neg (by omega), Int.toNat_natCast, h]
def gOne : List SV → Option SV
  | [.agg cells, .int .i64 h, .str msg, .str sig] => match unB cells with
    | some p => if p.length = 16 ∧ msg.length ≤ 2 ^ 40 ∧ sig.length ≤ 2 ^ 30 then some (verT p h msg sig) else none
    | none => none
  | _ => none
theorem gOne_eq {p msg sig : List UInt8} {h : Int} (hp : p.length = 16) (hm : msg.length ≤ 2 ^ 40) (hs : sig.length ≤ 2 ^ 30) : gOne [.agg (bys p), .int .i64 h, .str msg, .str sig] = some (verT p h msg sig) := by
  unfold gOne
  simp only [unB_bytes]
  rw [if_pos ⟨hp, hm, hs⟩]
theorem gOne_of {f : FuncId} (H : ∀ (p msg sig : List UInt8) (h : Int), p.length = 16 → msg.length ≤ 2 ^ 40 → sig.length ≤ 2 ^ 30 → Fun Tryd.prog tH2 f [.agg (bys p), .int .i64 h, .str msg, .str sig] [] 0 (verT p h msg sig) [] 0) :
    TabX Tryd.prog tH2 ⟨[(f, gOne)], []⟩ := by
  refine ⟨fun x h args r hr => ?_, fun x h => by simp at h⟩
  simp only [List.mem_cons, List.not_mem_nil, or_false] at h
  subst h
  simp only at hr
  unfold gOne at hr
  split at hr
  · split at hr
    · rename_i p hp
      split at hr
      · rename_i hc
        cases hr
        rw [unB_some hp]
        exact ⟨H p _ _ _ hc.1 hc.2.1 hc.2.2, fun η => by simp only [SV.renL, SV.ren, ren_bytes], fun η => by simp only [verT, SV.renL, SV.ren]⟩
      · cases hr
    · cases hr
  · cases hr
def cO (f : FuncId) : CallT := callX ⟨[(f, gOne)], []⟩
theorem cO41 : ∀ f a m n K, cO 41 f a m n K → callT Tryd.prog tH2 f a m n K := callX_ok (gOne_of f41)
theorem cO42 : ∀ f a m n K, cO 42 f a m n K → callT Tryd.prog tH2 f a m n K := callX_ok (gOne_of f42)
set_option maxHeartbeats 8000000 in
theorem f22 (e n i : Int) (l : List Mb) (msg sig : List UInt8) (hP : Pub l) (hl : l.length ≤ 1000) (hm : msg.length ≤ 2 ^ 40) (hs : sig.length ≤ 2 ^ 30) :
    Fun Tryd.prog tH2 22 [.agg [.int .i64 e, .int .i64 n, .slc 0 0 18 l.length none], .int .i64 i, .str msg, .str sig] [(0, ⟨.view, mcs l⟩)] 1 (chkT l i msg sig) [] 1 := by
  refine fun_val none (cO 41) cO41 chk22 (show 4 ≤ 34 by decide) (fun η => by simp only [chkT, SV.ren, SV.renL]) ?_
  unfold sf22 og om oq ov chkT
  have hlen := len_mcs hP
  by_cases h1 : i < 0
  · rw [chk_neg h1]
    simp (config := { maxSteps := 1000000 }) only [cO, h1, undef, setv, reduceCtorEq, Nat.reduceEqDiff, Nat.reduceAdd, eq_self, frOf, setv, ↓reduceIte, ↓binI, ↓evRes, Opd.ev, Sx.get, put, putO, del, dels, SV.cells?, retOf, BB, ↓PB]
  by_cases h2 : i ≥ (l.length : Int)
  · rw [chk_big h1 h2]
    simp (config := { maxSteps := 1000000 }) only [cO, h1, h2, setv, reduceCtorEq, Nat.reduceEqDiff, Nat.reduceAdd, eq_self, frOf, setv, ↓reduceIte, ↓binI, ↓evRes, Opd.ev, Sx.get, put, putO, del, dels, rd, SV.cells?, retOf, BB, ↓PB]
  obtain ⟨k, rfl⟩ : ∃ k : Nat, i = (k : Int) := ⟨i.toNat, by omega⟩
  have hk : k < l.length := by omega
  obtain ⟨m, hm'⟩ : ∃ m, l[k]? = some m := ⟨_, List.getElem?_eq_getElem hk⟩
  rw [chk_at hm']
  have h16 := hP m (List.mem_of_getElem? hm')
  have tr := take_row hP hm'
  have m17 := mb17 h16
  have mp := mbpub h16
  have msl := Mb.sv_len h16
  have go := gOne_eq (h := m.h) h16 hm hs
  have q0 : (0 : Int) ≤ (k : Int) := by omega
  have q1 : (k : Int) < (l.length : Int) := by omega
  have q2 : k * 18 + 18 ≤ l.length * 18 := by omega
  have q3 : k * 18 < l.length * 18 := by omega
  have lp : (bys m.pub).length = 16 := by rw [len_bytes, h16]
  have tp := take16 h16
  simp (config := { maxSteps := 1000000 }) only [cO, h1, h2, hlen, tr, m17, mp, msl, ↓go, verT, q0, q1, q2, q3, SV.flatL, SV.flat, lookF, setv, reduceCtorEq, Nat.reduceEqDiff, Nat.reduceAdd, Nat.reduceLeDiff, eq_self, frOf, setv, ↓reduceIte, ↓binI, ↓evRes, Opd.ev, Sx.get, put, putO, del, dels, rd, upd, splice, SV.cells?, retOf, BB, ↓PB]
set_option maxHeartbeats 8000000 in
theorem f23 (e n i : Int) (l : List Mb) (msg sig : List UInt8) (hP : Pub l) (hl : l.length ≤ 1000) (hm : msg.length ≤ 2 ^ 40) (hs : sig.length ≤ 2 ^ 30) :
    Fun Tryd.prog tH2 23 [.agg [.int .i64 e, .int .i64 n, .slc 0 0 18 l.length none], .int .i64 i, .str msg, .str sig] [(0, ⟨.view, mcs l⟩)] 1 (chkT l i msg sig) [] 1 := by
  refine fun_val none (cO 42) cO42 chk23 (show 4 ≤ 36 by decide) (fun η => by simp only [chkT, SV.ren, SV.renL]) ?_
  unfold sf23 og oh om oq chkT
  have hlen := len_mcs hP
  by_cases h1 : i < 0
  · rw [chk_neg h1]
    simp (config := { maxSteps := 1000000 }) only [cO, h1, undef, setv, reduceCtorEq, Nat.reduceEqDiff, Nat.reduceAdd, eq_self, frOf, setv, ↓reduceIte, ↓binI, ↓evRes, Opd.ev, Sx.get, put, putO, del, dels, SV.cells?, retOf, BB, ↓PB]
  by_cases h2 : i ≥ (l.length : Int)
  · rw [chk_big h1 h2]
    simp (config := { maxSteps := 1000000 }) only [cO, h1, h2, setv, reduceCtorEq, Nat.reduceEqDiff, Nat.reduceAdd, eq_self, frOf, setv, ↓reduceIte, ↓binI, ↓evRes, Opd.ev, Sx.get, put, putO, del, dels, rd, SV.cells?, retOf, BB, ↓PB]
  obtain ⟨k, rfl⟩ : ∃ k : Nat, i = (k : Int) := ⟨i.toNat, by omega⟩
  have hk : k < l.length := by omega
  obtain ⟨m, hm'⟩ : ∃ m, l[k]? = some m := ⟨_, List.getElem?_eq_getElem hk⟩
  rw [chk_at hm']
  have h16 := hP m (List.mem_of_getElem? hm')
  have go := gOne_eq (h := m.h) h16 hm hs
  have q0 : (0 : Int) ≤ (k : Int) := by omega
  have q1 : (k : Int) < (l.length : Int) := by omega
  have q2 : k * 18 + 1 + 16 ≤ l.length * 18 := by omega
  have q3 : k * 18 + 17 < l.length * 18 := by omega
  have q4 : k * 18 < l.length * 18 := by omega
  have lp : (bys m.pub).length = 16 := by rw [len_bytes, h16]
  have tp := take16 h16
  have gh : (mcs l)[k * 18 + 17]? = some (.int .i64 m.h) := by rw [cell_row hP hm' (k := 17) (by decide)]; exact mb17 h16
  have gp : List.take 16 (List.drop (k * 18 + 1) (mcs l)) = bys m.pub := by
    have := take_row hP hm'
    have h2 := mbpub h16
    rw [← this, List.drop_take, List.take_take, List.drop_drop] at h2
    rw [← h2]
    congr 1
  simp (config := { maxSteps := 1000000 }) only [cO, h1, h2, hlen, gh, gp, ↓go, verT, q0, q1, q2, q4, SV.flatL, SV.flat, lookF, setv, reduceCtorEq, Nat.reduceEqDiff, Nat.reduceAdd, eq_self, frOf, setv, ↓reduceIte, ↓binI, ↓evRes, Opd.ev, Sx.get, put, putO, del, dels, rd, SV.cells?, retOf, BB, ↓PB]
def gChk : GS
  | [.agg [.int .i64 e, .int .i64 n, .slc 0 0 18 len none], .int .i64 i, .str msg, .str sig], [(0, ⟨.view, cells⟩)] => match unM cells.length cells with
    | some l => if len = l.length ∧ l.length ≤ 1000 ∧ msg.length ≤ 2 ^ 40 ∧ sig.length ≤ 2 ^ 30 then some (chkT l i msg sig, [], 1) else none
    | none => none
  | _, _ => none
theorem gChk_eq {e n i : Int} {l : List Mb} {msg sig : List UInt8} (hP : Pub l) (hl : l.length ≤ 1000) (hm : msg.length ≤ 2 ^ 40) (hs : sig.length ≤ 2 ^ 30) :
    gChk [.agg [.int .i64 e, .int .i64 n, .slc 0 0 18 l.length none], .int .i64 i, .str msg, .str sig] [(0, ⟨.view, mcs l⟩)] = some (chkT l i msg sig, [], 1) := by
  unfold gChk
  simp only [unM_mcs hP (show l.length ≤ (mcs l).length by rw [len_mcs hP]; omega)]
  rw [if_pos ⟨trivial, hl, hm, hs⟩]
theorem gChk_of {f : FuncId} (H : ∀ (e n i : Int) (l : List Mb) (msg sig : List UInt8), Pub l → l.length ≤ 1000 → msg.length ≤ 2 ^ 40 → sig.length ≤ 2 ^ 30 →
    Fun Tryd.prog tH2 f [.agg [.int .i64 e, .int .i64 n, .slc 0 0 18 l.length none], .int .i64 i, .str msg, .str sig] [(0, ⟨.view, mcs l⟩)] 1 (chkT l i msg sig) [] 1) : FunS Tryd.prog tH2 f gChk := by
  intro a0 m0 r m1 n1 h
  unfold gChk at h
  split at h
  · split at h
    · rename_i l hl
      split at h
      · rename_i hc
        cases h
        obtain ⟨rfl, c2, c3, c4⟩ := hc
        obtain ⟨rfl, hP⟩ := unM_some hl
        exact ⟨H _ _ _ l _ _ hP c2 c3 c4, by simp [freshB]⟩
      · cases h
    · cases h
  · cases h
def tab4 : List (FuncId × GS) := [(8, gFew), (9, gSane), (22, gChk), (23, gChk)]
theorem tab4_ok : ∀ x ∈ tab4, FunS Tryd.prog tH2 x.1 x.2 := by
  intro x hx
  simp only [tab4, List.mem_cons, List.not_mem_nil, or_false] at hx
  rcases hx with rfl | rfl | rfl | rfl
  · exact gFew_ok
  · exact gSane_ok.more tHH
  · exact gChk_of f22
  · exact gChk_of f23
set_option maxHeartbeats 8000000 in
theorem f4 (e n i : Int) (l : List Mb) (msg sig : List UInt8) (hP : Pub l) (hl : l.length ≤ 9223372036854775807) :
    Fun Tryd.prog tH2 4 [.agg [.int .i64 e, .int .i64 n, .slc 0 0 18 l.length none], .int .i64 i, .str msg, .str sig] [(0, ⟨.view, mcs l⟩)] 1 (.bool true) [] 1 := by
  refine fun_any none (callS tab4 cF) (callS_ok tab4_ok cF_ok) chk4 (show 4 ≤ 56 by decide) (by decide) ?_
  unfold sf4 og om oq
  have hlen := len_mcs hP
  have fl := flat_mcs l
  have tk : List.take (l.length * 18) (mcs l) = mcs l := List.take_of_length_le (by omega)
  have un := unM_mcs (f := (mcs l).length) hP (by rw [hlen]; omega)
  rw [hlen] at un
  have b0 : Nat.ble l.length 9223372036854775807 = true := Nat.ble_eq_true_of_le (by omega)
  cases hf : fewB l with
  | false =>
    simp (config := { maxSteps := 1000000 }) only [tab4, gFew, gSane, hlen, fl, tk, un, b0, hf, SV.flatL, SV.flat, undef, lookF, setv, reduceCtorEq, Nat.reduceEqDiff, Nat.reduceAdd, Nat.reduceSub, Nat.reduceLT, eq_self, frOf, setv, ↓reduceIte, ↓evRes, Opd.ev, Sx.get, put, putO, del, dels, rd, SV.cells?, retOf, canLW, canV, canC, belowL, apH, apH1, SV.ren, newOwn, targets, rms, Kind.isOwn, BB, ↓PB]
    exact ⟨[(0, 0)], rfl, by simp [compat, apartM, keysBelow, idHs, BB]⟩
  | true =>
  by_cases h1 : (msg.length : Int) > 500
  · simp (config := { maxSteps := 1000000 }) only [tab4, gFew, gSane, hlen, fl, tk, un, b0, hf, h1, SV.flatL, SV.flat, undef, lookF, setv, reduceCtorEq, Nat.reduceEqDiff, Nat.reduceAdd, Nat.reduceSub, Nat.reduceLT, eq_self, frOf, setv, ↓reduceIte, ↓binI, ↓evRes, Opd.ev, Sx.get, put, putO, del, dels, rd, SV.cells?, retOf, canLW, canV, canC, belowL, apH, apH1, SV.ren, newOwn, targets, rms, Kind.isOwn, BB, ↓PB]
    exact ⟨[(0, 0)], rfl, by simp [compat, apartM, keysBelow, idHs, BB]⟩
  by_cases h2 : (sig.length : Int) > 2000
  · simp (config := { maxSteps := 1000000 }) only [tab4, gFew, gSane, hlen, fl, tk, un, b0, hf, h1, h2, SV.flatL, SV.flat, lookF, setv, reduceCtorEq, Nat.reduceEqDiff, Nat.reduceAdd, Nat.reduceSub, Nat.reduceLT, eq_self, frOf, setv, ↓reduceIte, ↓binI, ↓evRes, Opd.ev, Sx.get, put, putO, del, dels, rd, SV.cells?, retOf, canLW, canV, canC, belowL, apH, apH1, SV.ren, newOwn, targets, rms, Kind.isOwn, BB, ↓PB]
    exact ⟨[(0, 0)], rfl, by simp [compat, apartM, keysBelow, idHs, BB]⟩
  have k1 : l.length ≤ 1000 := by have := few_len hf; omega
  have g4 := gChk_eq (e := e) (n := n) (i := i) hP k1 (show msg.length ≤ 2 ^ 40 by omega) (show sig.length ≤ 2 ^ 30 by omega)
  unfold chkT at g4
  generalize (chkS l i msg sig).1 = x at *
  generalize (chkS l i msg sig).2 = y at *
  simp (config := { maxSteps := 1000000 }) only [tab4, gFew, gSane, ↓g4, hlen, fl, tk, un, b0, hf, h1, h2, SV.flatL, SV.flat, lookF, setv, reduceCtorEq, Nat.reduceEqDiff, Nat.reduceAdd, Nat.reduceSub, Nat.reduceLT, eq_self, frOf, setv, ↓reduceIte, ↓binI, ↓evRes, Opd.ev, Sx.get, put, putO, del, dels, rd, SV.cells?, retOf, canLW, canV, canC, belowL, apH, apH1, SV.ren, SV.renL, newOwn, targets, rms, Kind.isOwn, BB, ↓PB]
  exact ⟨[(0, 0)], by simp [EntM, compat, apartM, keysBelow, idHs, BB]⟩
end Go.Proofs.YtkfbkooobfepeaaDoor
