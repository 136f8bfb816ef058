/- The proof, part Ui: the texts LawK, LawM, LawE, LawD. -/
import Derived.Test.YtkfbkooobfepeaaDoorUh
import Derived.Test.YtkfbkooobfepeaaDoorCards
import Derived.Test.YtkfbkooobfepeaaDoorTie
import Derived.RowKit
import Derived.ProofKit
import Derived.Deep.DeepHandedRow
/- What the laws of layer 30 need of the seat: the tables, a world for the witness. -/
namespace Go.Proofs.YtkfbkooobfepeaaDoor
open Go Go.Sx Go.ChangeShapes Go.WideShapes
set_option maxRecDepth 100000
set_option linter.unusedSimpArgs false
set_option linter.unusedVariables false
theorem own : ownKnob Tryd.prog.godebug = none := by kernel_rfl
def nHash : String := (Rows.custodianStatementsRow.laid.map (·.1)).headD default
theorem gHash : Tryd.prog.globalNamed nHash = some 0 := by kernel_rfl
theorem gHashType : (Tryd.prog.globals[0]?).map (·.type) = some 121 := by kernel_rfl
theorem flatHash : flatT Tryd.prog 5 121 = some 64 := by kernel_rfl
theorem litsHash : (litsOf (H := Unit) Rows.laid_custody_hash_constants).length = 64 := by rfl
theorem convHash : (litsOf (H := Unit) Rows.laid_custody_hash_constants).map convV = kc.map u32 := by rfl
theorem boolT : Tryd.prog.underlying 4 = some .bool := by kernel_rfl
theorem u8_range {n : Int} (h : (Lit.int .u8 n).wf = true) : 0 ≤ n ∧ n < 256 := by
  simp [Lit.wf, IntKind.min, IntKind.max, IntKind.signed, IntKind.bits] at h; omega
theorem i64_range {n : Int} (h : (Lit.int .i64 n).wf = true) : R64 n := by
  simp [Lit.wf, IntKind.min, IntKind.max, IntKind.signed, IntKind.bits] at h
  unfold R64; omega

noncomputable def laidWorld (os : Os) : World :=
  { World.holding Tryd.prog os ⟨#[], #[], []⟩ with heap := (World.holding Tryd.prog os ⟨#[], #[], []⟩).heap.modify 0 fun
      | .cells _ t frozen => .cells (litsOf (H := Unit) Rows.laid_custody_hash_constants).toArray t frozen
      | o => o }

end Go.Proofs.YtkfbkooobfepeaaDoor

/- Members among the arguments of a law. -/
namespace Go.Proofs.YtkfbkooobfepeaaDoor
open Go Go.Sx Sf
set_option maxRecDepth 100000
set_option linter.unusedSimpArgs false
set_option linter.unusedVariables false
def Good (l : List Mb) : Prop := ∀ m ∈ l, m.pub.length = 16 ∧ R64 m.h ∧ m.name.length ≤ 9223372036854775807
theorem Good.pub {l : List Mb} (h : Good l) : Pub l := fun m hm => (h m hm).1
def tgM : List Tag := .s :: (List.replicate 16 (.i .u8) ++ [.i .i64])
theorem tags_u8s {ks : List Tag} : ∀ (k : Nat) {vs : List SV}, TagsSV (List.replicate k (.i .u8) ++ ks) vs → ∃ (d : List UInt8) (vs' : List SV), d.length = k ∧ vs = bys d ++ vs' ∧ TagsSV ks vs'
  | 0, vs, h => ⟨[], vs, rfl, rfl, h⟩
  | k + 1, vs, h => by
    rw [List.replicate_succ, List.cons_append] at h
    simp only [TagsSV, TagSV] at h
    obtain ⟨v, r, rfl, ⟨x, rfl, hx⟩, h⟩ := h
    obtain ⟨d, vs', h1, rfl, h2⟩ := tags_u8s k h
    refine ⟨UInt8.ofNat x.toNat :: d, vs', by simp [h1], ?_, h2⟩
    rw [u8_byte (u8_range hx)]
    rfl
theorem rows_mcs : ∀ (len : Nat) {cells : List SV}, RowsSV tgM len cells → ∃ l, l.length = len ∧ cells = mcs l ∧ Good l
  | 0, cells, h => ⟨[], rfl, h, by simp [Good]⟩
  | len + 1, cells, h => by
    obtain ⟨r, cs', rfl, hr, h⟩ := h
    obtain ⟨l, h1, rfl, h2⟩ := rows_mcs len h
    unfold tgM at hr
    simp only [TagsSV, TagSV] at hr
    obtain ⟨_, r1, q0, ⟨s, q1, hs⟩, hr1⟩ := hr
    obtain ⟨p, vs', hp, q2, hr2⟩ := tags_u8s 16 hr1
    simp only [TagsSV, TagSV] at hr2
    obtain ⟨_, r2, q3, ⟨x, q4, hx⟩, q5⟩ := hr2
    subst q5; subst q4; subst q3; subst q2; subst q1; subst q0
    refine ⟨⟨s, p, x⟩ :: l, by simp [h1], rfl, ?_⟩
    intro m hm
    rcases List.mem_cons.1 hm with rfl | hm
    · exact ⟨hp, i64_range hx, by unfold maxLen at hs; exact hs⟩
    · exact h2 m hm
end Go.Proofs.YtkfbkooobfepeaaDoor

/- The two tables of constants that two laws of layer 30 read. -/
namespace Go.Proofs.YtkfbkooobfepeaaDoor
open Go Go.Sx Go.ChangeShapes Go.WideShapes
set_option maxRecDepth 100000
set_option linter.unusedSimpArgs false
set_option linter.unusedVariables false
def nRef : String := (Rows.custodianMatchesSpecRow.laid.map (·.1)).headD default
theorem gRef : Tryd.prog.globalNamed nRef = some 1 := by kernel_rfl
theorem gRefType : (Tryd.prog.globals[1]?).map (·.type) = some 121 := by kernel_rfl
theorem litsRef : (litsOf (H := Unit) Rows.laid_custody_custodyref02_constants).length = 64 := by rfl
theorem convRef : (litsOf (H := Unit) Rows.laid_custody_custodyref02_constants).map convV = kc.map u32 := by rfl
theorem table2 {W : World} (h : laidMet Tryd.prog Rows.custodianMatchesSpecRow.laid W) : TabOk tH2 W := by
  obtain ⟨ps, h, _⟩ := h
  intro g cs hm
  simp only [tH2, List.mem_cons, List.not_mem_nil, or_false] at hm
  rcases hm with hm | hm
  · cases hm
    rw [← convHash]
    exact tab_of_laid h (name := nHash) (List.mem_cons_of_mem _ List.mem_cons_self) gHash gHashType flatHash litsHash (by decide)
  · cases hm
    rw [← convRef]
    exact tab_of_laid h (name := nRef) List.mem_cons_self gRef gRefType flatHash litsRef (by decide)
theorem table20 {W : World} (h : laidMet Tryd.prog Rows.custodianMatchesSpecRow.laid W) : 0 < W.heap.size :=
  (table2 h 0 _ List.mem_cons_self).1
noncomputable def laidWorld2 (os : Os) : World :=
  { laidWorld os with heap := (laidWorld os).heap.modify 1 fun
      | .cells _ t frozen => .cells (litsOf (H := Unit) Rows.laid_custody_custodyref02_constants).toArray t frozen
      | o => o }
end Go.Proofs.YtkfbkooobfepeaaDoor

/- The law CustodianMatchesSpec: it computes true. -/
namespace Go.Proofs.YtkfbkooobfepeaaDoor
open Go Go.Sx Sf
set_option maxRecDepth 100000
set_option linter.unusedVariables false
section
variable {T : List (Nat × List SV)} {call : CallT} {fr0 : Fr} {m0 : Mem} {r : List Opr} {done : List Dn} {n : Nat} {K : List Dn → Nat → Prop} {d : Option Nat} {op : SOp} {ks p h : List Nat} {g : Nat} {b : Bool}
theorem evA_0 : evA T call fr0 m0 [] done n K = K done n := (rfl)
theorem evA_n : evA T call fr0 m0 (⟨d, op, none, ks, p, h⟩ :: r) done n K =
    evO T call (frD (pickD done p) (dels fr0 h)) (views (memD (pickD done p) m0)) n (fun v m' n' => n ≤ n' ∧ evA T call fr0 m0 r (done ++ [⟨d, v, newer n m', n, n'⟩]) n' K) op := (rfl)
theorem evA_g : evA T call fr0 m0 (⟨d, op, some (g, b), ks, p, h⟩ :: r) done n K = (match get (frD (pickD done p) (dels fr0 h)) g with
    | .bool t => gd t b (evO T call (frD (pickD done p) (dels fr0 h)) (views (memD (pickD done p) m0)) n (fun v m' n' => n ≤ n' ∧ evA T call fr0 m0 r (done ++ [⟨d, v, newer n m', n, n'⟩]) n' K) op)
        (evA T call fr0 m0 r (done ++ [⟨d, .val undef, [], n, n⟩]) n K)
    | .val (.tuple _) => evA T call fr0 m0 r (done ++ [⟨d, .val undef, [], n, n⟩]) n K
    | _ => False) := (rfl)
end
def tabM3 : List (FuncId × GS) := [(8, gFew), (9, gSane), (10, gReplace), (11, gReplace), (12, gValid), (13, gValidR), (14, gSameC), (15, gSameI), (16, gKeptN), (17, gKeptN), (18, gEncode), (19, gEncodeR), (20, gDig20), (21, gDig21)]
theorem tabM3_ok : ∀ x ∈ tabM3, FunS Tryd.prog tH2 x.1 x.2 := by
  intro x hx
  simp only [tabM3, List.mem_cons, List.not_mem_nil, or_false] at hx
  rcases hx with rfl | rfl | rfl | rfl | rfl | rfl | rfl | rfl | rfl | rfl | rfl | rfl | rfl | rfl
  · exact gFew_ok
  · exact gSane_ok.more tH_2
  · exact gReplace_ok
  · exact gReplaceR_ok
  · exact gValid_ok
  · exact gValidR_ok
  · exact gSameC_ok
  · exact gSameI_ok
  · exact gKept16
  · exact gKept17
  · exact gEncode_ok
  · exact gEncodeR_ok
  · exact gDig20_ok
  · exact gDig21_ok
theorem keptL_len (l l' : List Mb) : (keptL l l').length = l.length := by simp [keptL]
theorem gSameI_eq {l : List Int} (h : l.length ≤ 1000) : gSameI [.slc 0 0 1 l.length none, .slc 1 0 1 l.length none] [(0, ⟨.view, ints l⟩), (1, ⟨.view, ints l⟩)] = some (.bool true, [], 2) := by
  unfold gSameI
  simp only [unI_ints]
  rw [if_pos ⟨trivial, trivial, h, h⟩]
  simp
theorem eqPat_same : ∀ O : List UInt8, eqPat (List.replicate O.length (.i .u8)) (bys O) (bys O) = some true
  | [] => rfl
  | c :: O => by
    have h := eqPat_same O
    simp only [List.length_cons, List.replicate_succ, bys, List.map_cons, eqPat]
    rw [show List.map SV.byte O = bys O from rfl, h]
    simp [SV.byte, eqTag]
section
variable {e n e' n' : Int} {l l' : List Mb}
theorem un_mcs (hP : Pub l) : unM (mcs l).length (mcs l) = some l := unM_mcs hP (by rw [len_mcs hP]; omega)
theorem gKeptN_eq (hP : Pub l) (hP' : Pub l') (hl : l.length ≤ 1000) (hl' : l'.length ≤ 1000) : gKeptN [.agg [.int .i64 e, .int .i64 n, .slc 0 0 18 l.length none], .agg [.int .i64 e', .int .i64 n', .slc 1 0 18 l'.length none]] [(0, ⟨.view, mcs l⟩), (1, ⟨.view, mcs l'⟩)] =
    some (nlS 2 1 l.length, nlM 2 3 (ints (keptL l l')) [] l.length, nlN 2 l.length) := by
  unfold gKeptN
  simp only [un_mcs hP, un_mcs hP']
  rw [if_pos ⟨trivial, trivial, hl, hl'⟩]
theorem gEncode_eq (hP : Pub l) (hl : l.length ≤ 1000) (hT : (encodeS e n l).length ≤ 2 ^ 38) : gEncode [.agg [.int .i64 e, .int .i64 n, .slc 0 0 18 l.length none]] [(0, ⟨.view, mcs l⟩)] = some (.str (encodeS e n l), [], 1) := by
  unfold gEncode
  simp only [un_mcs hP]
  rw [if_pos ⟨trivial, hT⟩, show Nat.ble l.length 9223372036854775807 = true from Nat.ble_eq_true_of_le (by omega)]
theorem gEncodeR_eq (hP : Pub l) (hl : l.length ≤ 1000) (hT : (encodeR e n l).length ≤ 2 ^ 38) : gEncodeR [.agg [.int .i64 e, .int .i64 n, .slc 0 0 18 l.length none]] [(0, ⟨.view, mcs l⟩)] = some (.str (encodeR e n l), [], 1) := by
  unfold gEncodeR
  simp only [un_mcs hP]
  rw [if_pos ⟨trivial, hT⟩, show Nat.ble l.length 9223372036854775807 = true from Nat.ble_eq_true_of_le (by omega)]
theorem gDig20_eq (hP : Pub l) (hl : l.length ≤ 1000) (hT : (encodeS e n l).length ≤ 2 ^ 36) : gDig20 [.agg [.int .i64 e, .int .i64 n, .slc 0 0 18 l.length none]] [(0, ⟨.view, mcs l⟩)] = some (.agg (bys (ofS 12 [encodeS e n l])), [], 1) := by
  unfold gDig20
  simp only [un_mcs hP]
  rw [if_pos ⟨trivial, hl, hT⟩]
theorem gDig21_eq (hP : Pub l) (hl : l.length ≤ 1000) (hT : (encodeR e n l).length ≤ 2 ^ 36) : gDig21 [.agg [.int .i64 e, .int .i64 n, .slc 0 0 18 l.length none]] [(0, ⟨.view, mcs l⟩)] = some (.agg (bys (ofS 12 [encodeR e n l])), [], 1) := by
  unfold gDig21
  simp only [un_mcs hP]
  rw [if_pos ⟨trivial, hl, hT⟩]
end
set_option maxHeartbeats 8000000 in
theorem f3 (e n nn e' n' : Int) (l l' : List Mb) (hG : Good l) (hG' : Good l') (he : R64 e) (hn : R64 n) (hl : l.length ≤ 9223372036854775807) (hl' : l'.length ≤ 9223372036854775807) :
    Fun Tryd.prog tH2 3 [.agg [.int .i64 e, .int .i64 n, .slc 0 0 18 l.length none], .int .i64 nn, .agg [.int .i64 e', .int .i64 n', .slc 1 0 18 l'.length none]] [(0, ⟨.view, mcs l⟩), (1, ⟨.view, mcs l'⟩)] 2 (.bool true) [] 2 := by
  refine fun_any none (callS tabM3 cF) (callS_ok tabM3_ok cF_ok) chk3 (show 3 ≤ 81 by decide) (by decide) ?_
  unfold sf3
  have hP := hG.pub
  have hP' := hG'.pub
  have hlen := len_mcs hP
  have hlen' := len_mcs hP'
  have fl := flat_mcs l
  have fl' := flat_mcs l'
  have tk : List.take (l.length * 18) (mcs l) = mcs l := List.take_of_length_le (by omega)
  have tk' : List.take (l'.length * 18) (mcs l') = mcs l' := List.take_of_length_le (by omega)
  have un := unM_mcs (f := (mcs l).length) hP (by rw [hlen]; omega)
  rw [hlen] at un
  have un' := unM_mcs (f := (mcs l').length) hP' (by rw [hlen']; omega)
  rw [hlen'] at un'
  have b0 : Nat.ble l.length 9223372036854775807 = true := Nat.ble_eq_true_of_le (by omega)
  have b0' : Nat.ble l'.length 9223372036854775807 = true := Nat.ble_eq_true_of_le (by omega)
  cases hf : fewB l with
  | false =>
    simp (config := { maxSteps := 1000000 }) only [tabM3, gFew, gSane, hlen, hlen', fl, fl', tk, tk', un, un', b0, b0', hf, SV.flatL, SV.flat, Bool.and_true, Bool.true_and, and_self, undef, lookF, setv, reduceCtorEq, Nat.reduceEqDiff, Nat.reduceAdd, Nat.reduceSub, Nat.reduceLT, eq_self,  true_and, and_true, List.length_cons, List.length_nil, List.append_nil, List.nil_append, List.take_succ_cons, List.drop_zero, List.take_nil, List.map_cons, List.map_nil, Nat.zero_add, Nat.add_zero, frOf, den_nil, den_o0, ↓gd_tt, ↓gd_tf, den_o1, kont_app, den_g, setv, Bool.not_false, den_reg, Bool.not_false, den_seq, den_cond, den_ret, den_rc, finE_r, ↓reduceIte, ↓e_box, ↓e_load, ↓e_mv, ↓e_pick, ↓e_un, ↓e_call, ↓e_callp, ↓evRes, Opd.ev, Sx.get, put, putO, del, dels, rd, SV.cells?, retOf, ↓u_callS, canLW, canV, canC, belowL, apH, apH1, SV.ren, newOwn, targets, rms, Kind.isOwn, Nat.sub_zero, Nat.le_refl]
    exact ⟨[(0, 0), (1, 0)], rfl, by simp [compat, apartM, keysBelow, idHs, List.take_succ_cons, List.nil_append, List.cons_append, List.take_nil, and_self]⟩
  | true =>
  cases hf' : fewB l' with
  | false =>
    simp (config := { maxSteps := 1000000 }) only [tabM3, gFew, gSane, hlen, hlen', fl, fl', tk, tk', un, un', b0, b0', hf, hf', SV.flatL, SV.flat, Bool.and_true, Bool.true_and, and_self, lookF, setv, reduceCtorEq, Nat.reduceEqDiff, Nat.reduceAdd, Nat.reduceSub, Nat.reduceLT, eq_self,  true_and, and_true, List.length_cons, List.length_nil, List.append_nil, List.nil_append, List.take_succ_cons, List.drop_zero, List.take_nil, List.map_cons, List.map_nil, Nat.zero_add, Nat.add_zero, frOf, den_nil, den_o0, ↓gd_tt, ↓gd_ff, ↓gd_ft, den_o1, kont_app, den_g, setv, Bool.not_true, Bool.not_false, den_reg, Bool.not_true, Bool.not_false, den_seq, den_cond, den_ret, den_rc, finE_r, ↓reduceIte, ↓e_box, ↓e_load, ↓e_mv, ↓e_pick, ↓e_un, ↓e_call, ↓e_callp, ↓evRes, Opd.ev, Sx.get, put, putO, del, dels, rd, SV.cells?, retOf, ↓u_callS, canLW, canV, canC, belowL, apH, apH1, SV.ren, newOwn, targets, rms, Kind.isOwn, Nat.sub_zero, Nat.le_refl]
    exact ⟨[(0, 0), (1, 0)], rfl, by simp [compat, apartM, keysBelow, idHs, List.take_succ_cons, List.nil_append, List.cons_append, List.take_nil, and_self]⟩
  | true =>
  have h20 := few_len hf
  have h20' := few_len hf'
  have k1 : l.length ≤ 1000 := by omega
  have k1' : l'.length ≤ 1000 := by omega
  have hel := encode_few (e := e) (n := n) hP hf
  have hsm := encode_same (e := e) (n := n) (l := l) he hn ⟨by omega, by omega⟩ (fun m hm => ⟨(hG m hm).2.1, by have := (hG m hm).2.2; exact ⟨by omega, by omega⟩⟩)
  have g18 := gEncode_eq (e := e) (n := n) hP k1 (by omega)
  have g19 := gEncodeR_eq (e := e) (n := n) hP k1 (by rw [hsm]; omega)
  have g20 := gDig20_eq (e := e) (n := n) hP k1 (by omega)
  have g21 := gDig21_eq (e := e) (n := n) hP k1 (by rw [hsm]; omega)
  rw [hsm] at g19 g21
  have l16 := ofS_len 12 [encodeS e n l]
  generalize hO : ofS 12 [encodeS e n l] = O at *
  have g16 := gKeptN_eq (e := e) (n := n) (e' := e') (n' := n') hP hP' k1 k1'
  have kl := keptL_len l l'
  have hsI := gSameI_eq (l := keptL l l') (by omega)
  rw [kl] at hsI
  have rki : ∀ η, SV.renL η (ints (keptL l l')) = ints (keptL l l') := fun η => ren_ints η _
  have tkk : List.take l.length (ints (keptL l l')) = ints (keptL l l') := by have := take_ints (keptL l l'); rwa [kl] at this
  have hss : (encodeS e n l == encodeS e n l) = true := by simp
  have hvb : (validB e n l == validB e n l) = true := by simp
  have heq : eqPat [.i .u8, .i .u8, .i .u8, .i .u8, .i .u8, .i .u8, .i .u8, .i .u8, .i .u8, .i .u8, .i .u8, .i .u8, .i .u8, .i .u8, .i .u8, .i .u8] (bys O) (bys O) = some true := by
    have h := eqPat_same O
    rw [l16] at h
    exact h
  generalize hE : encodeS e n l = E at *
  cases hr : replB e n nn l l' with
  | false =>
    have hs0 : sameB 0 0 [] 0 0 [] = true := sameB_yes
    rcases Nat.eq_zero_or_pos l.length with h0 | h0
    · rw [nlS_z h0, nlM_z h0, nlN_z h0] at g16
      have hsN : gSameI [.val (.slice none 0 0), .val (.slice none 0 0)] [] = some (.bool true, [], 0) := rfl
      simp (config := { maxSteps := 1000000 }) only [tabM3, gFew, gReplace, hlen, hlen', fl, fl', tk, tk', un, un', b0, b0', hf, hf', k1, k1', hr, noCust, SV.flatL, SV.flat, Bool.and_true, Bool.true_and, and_self, lookF, setv, reduceCtorEq, Nat.reduceEqDiff, Nat.reduceAdd, Nat.reduceSub, Nat.reduceLT, false_imp_iff, eq_self,  true_and, List.getElem?_cons_zero, List.getElem?_cons_succ, List.length_cons, List.length_nil, List.append_nil, List.nil_append, List.cons_append, List.take_succ_cons, List.take_zero, List.drop_succ_cons, List.drop_zero, List.take_nil, List.drop_nil, List.map_cons, List.map_nil, Nat.zero_add, Nat.add_zero, frOf, den_o0, ↓gd_ff, ↓gd_ft, den_o1, kont_app, den_g, setv, Bool.not_true, den_skip, den_reg, den_regD, Bool.not_true, Bool.or_self, den_seq, den_cond, ↓reduceIte, ↓e_box, ↓e_load, ↓e_store, ↓e_ext, ↓e_mv, ↓e_pick, ↓e_new, ↓e_fld, ↓e_un, ↓e_call, Opd.ev, Sx.get, put, putO, del, dels, rd, upd, splice, SV.cells?, ↓u_callS, canLW, canV, canC, belowL, apH, apH1, SV.ren, SV.renL, newOwn, targets, rms, Kind.isOwn, Nat.le_refl]
      iterate 2 (rw [evA_n]; simp (config := { maxSteps := 1000000 }) only [gSane, SV.flatL, SV.flat, lookF, Nat.reduceEqDiff, eq_self,  true_and, List.getElem?_cons_zero, List.length_nil, List.append_nil, List.nil_append, List.cons_append, List.map_nil, Nat.add_zero, ↓reduceIte, ↓e_mv, ↓e_callp, Opd.ev, Sx.get, put, putO, del, dels, frD, memD, pickD, views, newer, ↓u_callS, canLW, belowL, apH, SV.ren, newOwn, targets, rms, Nat.sub_zero, Nat.le_refl])
      iterate 5 (rw [evA_g]; simp (config := { maxSteps := 1000000 }) only [gValid, gValidR, hlen, fl, tk, un, b0, hvb, SV.flatL, SV.flat, Bool.and_true, Bool.true_and, and_self, lookF, reduceCtorEq, Nat.reduceEqDiff, Nat.reduceAdd, Nat.reduceSub, Nat.reduceLT, eq_self,  true_and, List.getElem?_cons_zero, List.getElem?_cons_succ, List.length_cons, List.length_nil, List.append_nil, List.nil_append, List.cons_append, List.take_succ_cons, List.drop_zero, List.take_nil, List.map_cons, List.map_nil, Nat.zero_add, Nat.add_zero, ↓gd_tt, ↓reduceIte, ↓e_load, ↓e_eqb, ↓e_call, Opd.ev, Sx.get, put, putO, del, dels, frD, memD, pickD, views, newer, rd, ↓u_callS, canLW, canV, canC, belowL, apH, apH1, SV.ren, newOwn, targets, rms, Kind.isOwn, Nat.le_refl])
      iterate 2 (rw [evA_n]; simp (config := { maxSteps := 1000000 }) only [Nat.reduceEqDiff, eq_self,  true_and, List.getElem?_cons_zero, List.getElem?_cons_succ, List.nil_append, List.cons_append, ↓gd_tt, ↓reduceIte, ↓e_mv, ↓e_pick, Opd.ev, Sx.get, put, putO, del, dels, frD, memD, pickD, views, newer, Nat.le_refl])
      iterate 3 (rw [evA_g]; simp (config := { maxSteps := 1000000 }) only [gSameC, hs0, SV.flatL, SV.flat, Bool.and_self, lookF, Nat.reduceEqDiff, Nat.reduceAdd, eq_self,  true_and, List.getElem?_cons_zero, List.getElem?_cons_succ, List.length_cons, List.length_nil, List.append_nil, List.nil_append, List.cons_append, List.take_succ_cons, List.drop_zero, List.take_nil, List.map_cons, List.map_nil, Nat.zero_add, Nat.add_zero, ↓gd_tt, ↓reduceIte, ↓e_load, ↓e_call, Opd.ev, Sx.get, put, putO, del, dels, frD, memD, pickD, views, newer, rd, ↓u_callS, canLW, canV, canC, belowL, apH, SV.ren, newOwn, targets, rms, Nat.sub_zero, Nat.le_refl])
      iterate 2 (rw [evA_n]; simp (config := { maxSteps := 1000000 }) only [Nat.reduceEqDiff, eq_self,  true_and, List.getElem?_cons_zero, List.getElem?_cons_succ, List.nil_append, List.cons_append, ↓gd_tt, ↓reduceIte, ↓e_mv, ↓e_pick, Opd.ev, Sx.get, put, putO, del, dels, frD, memD, pickD, views, newer, Nat.le_refl])
      iterate 3 (rw [evA_g]; simp (config := { maxSteps := 1000000 }) only [beq_self_eq_true, beq_self_eq_true, Nat.reduceEqDiff, eq_self,  true_and, List.getElem?_cons_zero, List.getElem?_cons_succ, List.nil_append, List.cons_append, ↓gd_tt, ↓reduceIte, ↓e_mv, ↓e_bin, ↓u_binV, ↓binI, Opd.ev, Sx.get, put, putO, del, dels, frD, memD, pickD, views, newer, Nat.le_refl])
      iterate 2 (rw [evA_n]; simp (config := { maxSteps := 1000000 }) only [Nat.reduceEqDiff, eq_self,  true_and, List.getElem?_cons_zero, List.getElem?_cons_succ, List.nil_append, List.cons_append, ↓gd_tt, ↓reduceIte, ↓e_mv, ↓e_pick, Opd.ev, Sx.get, put, putO, del, dels, frD, memD, pickD, views, newer, Nat.le_refl])
      iterate 7 (rw [evA_g]; simp (config := { maxSteps := 1000000 }) only [↓hsN, ↓g16, hlen, hlen', fl, fl', tk, tk', SV.flatL, SV.flat, Bool.and_true, Bool.true_and, and_self, lookF, reduceCtorEq, Nat.reduceEqDiff, Nat.reduceAdd, Nat.reduceSub, Nat.reduceLT, false_imp_iff, eq_self,  true_and, List.getElem?_cons_zero, List.getElem?_cons_succ, List.length_cons, List.length_nil, List.append_nil, List.nil_append, List.cons_append, List.take_succ_cons, List.drop_zero, List.take_nil, List.map_cons, List.map_nil, Nat.zero_add, Nat.add_zero, ↓gd_tt, Bool.or_self, ↓reduceIte, ↓e_load, ↓e_call, Opd.ev, Sx.get, put, putO, del, dels, frD, memD, pickD, views, newer, rd, ↓u_callS, canLW, canV, canC, belowL, apH, apH1, SV.ren, newOwn, targets, rms, Kind.isOwn, Nat.sub_zero, Nat.le_refl])
      iterate 2 (rw [evA_n]; simp (config := { maxSteps := 1000000 }) only [Nat.reduceEqDiff, eq_self,  true_and, List.getElem?_cons_zero, List.getElem?_cons_succ, List.nil_append, List.cons_append, ↓gd_tt, ↓reduceIte, ↓e_mv, ↓e_pick, Opd.ev, Sx.get, put, putO, del, dels, frD, memD, pickD, views, newer, Nat.le_refl])
      iterate 5 (rw [evA_g]; simp (config := { maxSteps := 1000000 }) only [↓g18, ↓g19, hlen, fl, tk, hss, SV.flatL, SV.flat, Bool.and_true, Bool.true_and, and_self, lookF, reduceCtorEq, Nat.reduceEqDiff, Nat.reduceAdd, Nat.reduceSub, Nat.reduceLT, eq_self,  true_and, List.getElem?_cons_zero, List.getElem?_cons_succ, List.length_cons, List.length_nil, List.append_nil, List.nil_append, List.cons_append, List.take_succ_cons, List.drop_zero, List.take_nil, List.map_cons, List.map_nil, Nat.zero_add, Nat.add_zero, ↓gd_tt, ↓reduceIte, ↓e_load, ↓e_bin, ↓e_call, ↓u_binV, ↓binS, Opd.ev, Sx.get, put, putO, del, dels, frD, memD, pickD, views, newer, rd, ↓u_callS, canLW, canV, canC, belowL, apH, apH1, SV.ren, newOwn, targets, rms, Kind.isOwn, Nat.le_refl])
      iterate 2 (rw [evA_n]; simp (config := { maxSteps := 1000000 }) only [Nat.reduceEqDiff, eq_self,  true_and, List.getElem?_cons_zero, List.getElem?_cons_succ, List.nil_append, List.cons_append, ↓gd_tt, ↓reduceIte, ↓e_mv, ↓e_pick, Opd.ev, Sx.get, put, putO, del, dels, frD, memD, pickD, views, newer, Nat.le_refl])
      iterate 3 (rw [evA_g]; simp (config := { maxSteps := 1000000 }) only [↓g20, hlen, fl, tk, SV.flatL, SV.flat, Bool.and_true, Bool.true_and, and_self, lookF, reduceCtorEq, Nat.reduceEqDiff, Nat.reduceAdd, Nat.reduceSub, Nat.reduceLT, eq_self,  true_and, List.getElem?_cons_zero, List.getElem?_cons_succ, List.length_cons, List.length_nil, List.append_nil, List.nil_append, List.cons_append, List.take_succ_cons, List.drop_zero, List.take_nil, List.map_cons, List.map_nil, Nat.zero_add, Nat.add_zero, ↓gd_tt, ↓reduceIte, ↓e_load, ↓e_call, Opd.ev, Sx.get, put, putO, del, dels, frD, memD, pickD, views, newer, rd, ↓u_callS, canLW, canV, canC, belowL, apH, apH1, SV.ren, newOwn, targets, rms, Kind.isOwn, ren_bytes, Nat.le_refl])
      rw [evA_0]
      simp (config := { maxSteps := 1000000 }) only [↓g21, hlen, fl, tk, ↓heq, SV.flatL, SV.flat, Bool.and_true, Bool.true_and, and_self, lookF, setv, reduceCtorEq, Nat.reduceEqDiff, Nat.reduceSub, Nat.reduceLT, eq_self,  true_and, and_true, List.length_cons, List.length_nil, List.append_nil, List.nil_append, List.cons_append, List.take_succ_cons, List.take_zero, List.drop_succ_cons, List.drop_zero, List.reverse_cons, List.reverse_nil, List.map_cons, List.map_nil, Nat.zero_add, Nat.add_zero, den_nil, den_o0, ↓gd_tt, den_o1, kont_app, den_g, setv, den_A, den_ret, finE_r, ↓reduceIte, ↓e_eqv, ↓e_mv, ↓e_pick, ↓e_call, ↓evRes, Opd.ev, Sx.get, put, putO, del, dels, frD, memD, kills, rd, retOf, ↓u_callS, canLW, canV, canC, belowL, apH, apH1, SV.ren, newOwn, targets, rms, Kind.isOwn, ren_bytes, Nat.le_refl]
      exact ⟨[(0, 0), (1, 0)], rfl, by simp [compat, apartM, keysBelow, idHs, List.take_succ_cons, List.nil_append, List.cons_append, List.take_nil, and_self]⟩
    · rw [nlS_p h0, nlM_p h0, nlN_p h0] at g16
      simp (config := { maxSteps := 1000000 }) only [tabM3, gFew, gReplace, hlen, hlen', fl, fl', tk, tk', un, un', b0, b0', hf, hf', k1, k1', hr, noCust, SV.flatL, SV.flat, Bool.and_true, Bool.true_and, and_self, lookF, setv, reduceCtorEq, Nat.reduceEqDiff, Nat.reduceAdd, Nat.reduceSub, Nat.reduceLT, false_imp_iff, eq_self,  true_and, List.getElem?_cons_zero, List.getElem?_cons_succ, List.length_cons, List.length_nil, List.append_nil, List.nil_append, List.cons_append, List.take_succ_cons, List.take_zero, List.drop_succ_cons, List.drop_zero, List.take_nil, List.drop_nil, List.map_cons, List.map_nil, Nat.zero_add, Nat.add_zero, frOf, den_o0, ↓gd_ff, ↓gd_ft, den_o1, kont_app, den_g, setv, Bool.not_true, den_skip, den_reg, den_regD, Bool.not_true, Bool.or_self, den_seq, den_cond, ↓reduceIte, ↓e_box, ↓e_load, ↓e_store, ↓e_ext, ↓e_mv, ↓e_pick, ↓e_new, ↓e_fld, ↓e_un, ↓e_call, Opd.ev, Sx.get, put, putO, del, dels, rd, upd, splice, SV.cells?, ↓u_callS, canLW, canV, canC, belowL, apH, apH1, SV.ren, SV.renL, newOwn, targets, rms, Kind.isOwn, Nat.le_refl]
      iterate 2 (rw [evA_n]; simp (config := { maxSteps := 1000000 }) only [gSane, SV.flatL, SV.flat, lookF, Nat.reduceEqDiff, eq_self,  true_and, List.getElem?_cons_zero, List.length_nil, List.append_nil, List.nil_append, List.cons_append, List.map_nil, Nat.add_zero, ↓reduceIte, ↓e_mv, ↓e_callp, Opd.ev, Sx.get, put, putO, del, dels, frD, memD, pickD, views, newer, ↓u_callS, canLW, belowL, apH, SV.ren, newOwn, targets, rms, Nat.sub_zero, Nat.le_refl])
      iterate 5 (rw [evA_g]; simp (config := { maxSteps := 1000000 }) only [gValid, gValidR, hlen, fl, tk, un, b0, hvb, SV.flatL, SV.flat, Bool.and_true, Bool.true_and, and_self, lookF, reduceCtorEq, Nat.reduceEqDiff, Nat.reduceAdd, Nat.reduceSub, Nat.reduceLT, eq_self,  true_and, List.getElem?_cons_zero, List.getElem?_cons_succ, List.length_cons, List.length_nil, List.append_nil, List.nil_append, List.cons_append, List.take_succ_cons, List.drop_zero, List.take_nil, List.map_cons, List.map_nil, Nat.zero_add, Nat.add_zero, ↓gd_tt, ↓reduceIte, ↓e_load, ↓e_eqb, ↓e_call, Opd.ev, Sx.get, put, putO, del, dels, frD, memD, pickD, views, newer, rd, ↓u_callS, canLW, canV, canC, belowL, apH, apH1, SV.ren, newOwn, targets, rms, Kind.isOwn, Nat.le_refl])
      iterate 2 (rw [evA_n]; simp (config := { maxSteps := 1000000 }) only [Nat.reduceEqDiff, eq_self,  true_and, List.getElem?_cons_zero, List.getElem?_cons_succ, List.nil_append, List.cons_append, ↓gd_tt, ↓reduceIte, ↓e_mv, ↓e_pick, Opd.ev, Sx.get, put, putO, del, dels, frD, memD, pickD, views, newer, Nat.le_refl])
      iterate 3 (rw [evA_g]; simp (config := { maxSteps := 1000000 }) only [gSameC, hs0, SV.flatL, SV.flat, Bool.and_self, lookF, Nat.reduceEqDiff, Nat.reduceAdd, eq_self,  true_and, List.getElem?_cons_zero, List.getElem?_cons_succ, List.length_cons, List.length_nil, List.append_nil, List.nil_append, List.cons_append, List.take_succ_cons, List.drop_zero, List.take_nil, List.map_cons, List.map_nil, Nat.zero_add, Nat.add_zero, ↓gd_tt, ↓reduceIte, ↓e_load, ↓e_call, Opd.ev, Sx.get, put, putO, del, dels, frD, memD, pickD, views, newer, rd, ↓u_callS, canLW, canV, canC, belowL, apH, SV.ren, newOwn, targets, rms, Nat.sub_zero, Nat.le_refl])
      iterate 2 (rw [evA_n]; simp (config := { maxSteps := 1000000 }) only [Nat.reduceEqDiff, eq_self,  true_and, List.getElem?_cons_zero, List.getElem?_cons_succ, List.nil_append, List.cons_append, ↓gd_tt, ↓reduceIte, ↓e_mv, ↓e_pick, Opd.ev, Sx.get, put, putO, del, dels, frD, memD, pickD, views, newer, Nat.le_refl])
      iterate 3 (rw [evA_g]; simp (config := { maxSteps := 1000000 }) only [beq_self_eq_true, beq_self_eq_true, Nat.reduceEqDiff, eq_self,  true_and, List.getElem?_cons_zero, List.getElem?_cons_succ, List.nil_append, List.cons_append, ↓gd_tt, ↓reduceIte, ↓e_mv, ↓e_bin, ↓u_binV, ↓binI, Opd.ev, Sx.get, put, putO, del, dels, frD, memD, pickD, views, newer, Nat.le_refl])
      iterate 2 (rw [evA_n]; simp (config := { maxSteps := 1000000 }) only [Nat.reduceEqDiff, eq_self,  true_and, List.getElem?_cons_zero, List.getElem?_cons_succ, List.nil_append, List.cons_append, ↓gd_tt, ↓reduceIte, ↓e_mv, ↓e_pick, Opd.ev, Sx.get, put, putO, del, dels, frD, memD, pickD, views, newer, Nat.le_refl])
      iterate 7 (rw [evA_g]; simp (config := { maxSteps := 1000000 }) only [↓hsI, ↓g16, hlen, hlen', fl, fl', tk, tk', kl, tkk, SV.flatL, SV.flat, Bool.and_true, Bool.true_and, and_self, lookF, reduceCtorEq, Nat.reduceEqDiff, Nat.reduceAdd, Nat.reduceSub, Nat.reduceLeDiff, Nat.reduceLT, false_imp_iff, eq_self,  true_and, List.getElem?_cons_zero, List.getElem?_cons_succ, List.length_cons, List.length_nil, List.append_nil, List.nil_append, List.cons_append, List.take_succ_cons, List.drop_zero, List.take_nil, List.map_cons, List.map_nil, Nat.zero_add, Nat.add_zero, ↓gd_tt, Bool.or_self, ↓reduceIte, ↓e_load, ↓e_call, Opd.ev, Sx.get, put, putO, del, dels, frD, memD, pickD, views, newer, rd, ↓u_callS, canLW, canV, canC, belowL, apH, apH1, eta, SV.ren, newOwn, targets, rms, Kind.isOwn, ren_ints, flat_ints, len_ints, List.getElem?_nil, Option.getD_none, Nat.le_refl, Nat.mul_one])
      iterate 2 (rw [evA_n]; simp (config := { maxSteps := 1000000 }) only [Nat.reduceEqDiff, eq_self,  true_and, List.getElem?_cons_zero, List.getElem?_cons_succ, List.nil_append, List.cons_append, ↓gd_tt, ↓reduceIte, ↓e_mv, ↓e_pick, Opd.ev, Sx.get, put, putO, del, dels, frD, memD, pickD, views, newer, Nat.le_refl])
      iterate 5 (rw [evA_g]; simp (config := { maxSteps := 1000000 }) only [↓g18, ↓g19, hlen, fl, tk, hss, SV.flatL, SV.flat, Bool.and_true, Bool.true_and, and_self, lookF, reduceCtorEq, Nat.reduceEqDiff, Nat.reduceAdd, Nat.reduceSub, Nat.reduceLT, eq_self,  true_and, List.getElem?_cons_zero, List.getElem?_cons_succ, List.length_cons, List.length_nil, List.append_nil, List.nil_append, List.cons_append, List.take_succ_cons, List.drop_zero, List.take_nil, List.map_cons, List.map_nil, Nat.zero_add, Nat.add_zero, ↓gd_tt, ↓reduceIte, ↓e_load, ↓e_bin, ↓e_call, ↓u_binV, ↓binS, Opd.ev, Sx.get, put, putO, del, dels, frD, memD, pickD, views, newer, rd, ↓u_callS, canLW, canV, canC, belowL, apH, apH1, SV.ren, newOwn, targets, rms, Kind.isOwn, Nat.le_refl])
      iterate 2 (rw [evA_n]; simp (config := { maxSteps := 1000000 }) only [Nat.reduceEqDiff, eq_self,  true_and, List.getElem?_cons_zero, List.getElem?_cons_succ, List.nil_append, List.cons_append, ↓gd_tt, ↓reduceIte, ↓e_mv, ↓e_pick, Opd.ev, Sx.get, put, putO, del, dels, frD, memD, pickD, views, newer, Nat.le_refl])
      iterate 3 (rw [evA_g]; simp (config := { maxSteps := 1000000 }) only [↓g20, hlen, fl, tk, SV.flatL, SV.flat, Bool.and_true, Bool.true_and, and_self, lookF, reduceCtorEq, Nat.reduceEqDiff, Nat.reduceAdd, Nat.reduceSub, Nat.reduceLT, eq_self,  true_and, List.getElem?_cons_zero, List.getElem?_cons_succ, List.length_cons, List.length_nil, List.append_nil, List.nil_append, List.cons_append, List.take_succ_cons, List.drop_zero, List.take_nil, List.map_cons, List.map_nil, Nat.zero_add, Nat.add_zero, ↓gd_tt, ↓reduceIte, ↓e_load, ↓e_call, Opd.ev, Sx.get, put, putO, del, dels, frD, memD, pickD, views, newer, rd, ↓u_callS, canLW, canV, canC, belowL, apH, apH1, SV.ren, newOwn, targets, rms, Kind.isOwn, ren_bytes, Nat.le_refl])
      rw [evA_0]
      simp (config := { maxSteps := 1000000 }) only [↓g21, hlen, fl, tk, ↓heq, SV.flatL, SV.flat, Bool.and_true, Bool.true_and, and_self, lookF, setv, reduceCtorEq, Nat.reduceEqDiff, Nat.reduceSub, Nat.reduceLT, eq_self,  true_and, and_true, List.length_cons, List.length_nil, List.append_nil, List.nil_append, List.cons_append, List.take_succ_cons, List.take_zero, List.drop_succ_cons, List.drop_zero, List.reverse_cons, List.reverse_nil, List.map_cons, List.map_nil, Nat.zero_add, Nat.add_zero, den_nil, den_o0, ↓gd_tt, den_o1, kont_app, den_g, setv, den_A, den_ret, finE_r, ↓reduceIte, ↓e_eqv, ↓e_mv, ↓e_pick, ↓e_call, ↓evRes, Opd.ev, Sx.get, put, putO, del, dels, frD, memD, kills, rd, retOf, ↓u_callS, canLW, canV, canC, belowL, apH, apH1, SV.ren, newOwn, targets, rms, Kind.isOwn, ren_bytes, Nat.le_refl]
      exact ⟨[(0, 0), (1, 0)], rfl, by simp [compat, apartM, keysBelow, idHs, List.take_succ_cons, List.nil_append, List.cons_append, List.take_nil, and_self]⟩
  | true =>
    have hsB : sameB (IntKind.i64.wrap (e + 1)) nn l' (IntKind.i64.wrap (e + 1)) nn l' = true := sameB_yes
    have h0 : 0 < l.length := by
      unfold replB at hr
      rw [Bool.and_eq_true] at hr
      exact valid_pos' hr.1
    rw [nlS_p h0, nlM_p h0, nlN_p h0] at g16
    simp (config := { maxSteps := 1000000 }) only [tabM3, gFew, gReplace, ren_mcs, hlen, hlen', fl, fl', tk, tk', un, un', b0, b0', hf, hf', k1, k1', hr, SV.flatL, SV.flat, Bool.and_true, Bool.true_and, and_self, lookF, setv, reduceCtorEq, Nat.reduceEqDiff, Nat.reduceAdd, Nat.reduceSub, Nat.reduceLT, false_imp_iff, eq_self,  true_and, List.getElem?_cons_zero, List.getElem?_cons_succ, List.length_cons, List.length_nil, List.append_nil, List.nil_append, List.cons_append, List.take_succ_cons, List.take_zero, List.drop_succ_cons, List.drop_zero, List.take_nil, List.drop_nil, List.map_cons, List.map_nil, Nat.zero_add, Nat.add_zero, frOf, den_o0, ↓gd_ff, ↓gd_ft, den_o1, kont_app, den_g, setv, Bool.not_true, den_skip, den_reg, den_regD, Bool.not_true, Bool.or_self, den_seq, den_cond, ↓reduceIte, ↓e_box, ↓e_load, ↓e_store, ↓e_ext, ↓e_mv, ↓e_pick, ↓e_new, ↓e_fld, ↓e_un, ↓e_call, Opd.ev, Sx.get, put, putO, del, dels, rd, upd, splice, SV.cells?, ↓u_callS, canLW, canV, canC, belowL, apH, apH1, eta, SV.ren, SV.renL, newOwn, targets, rms, Kind.isOwn, List.getElem?_nil, Option.getD_none, Nat.le_refl]
    iterate 2 (rw [evA_n]; simp (config := { maxSteps := 1000000 }) only [gSane, SV.flatL, SV.flat, lookF, Nat.reduceEqDiff, eq_self,  true_and, List.getElem?_cons_zero, List.length_nil, List.append_nil, List.nil_append, List.cons_append, List.map_nil, Nat.add_zero, ↓reduceIte, ↓e_mv, ↓e_callp, Opd.ev, Sx.get, put, putO, del, dels, frD, memD, pickD, views, newer, ↓u_callS, canLW, belowL, apH, SV.ren, newOwn, targets, rms, Nat.sub_zero, Nat.le_refl])
    iterate 5 (rw [evA_g]; simp (config := { maxSteps := 1000000 }) only [gValid, gValidR, hlen, fl, tk, un, b0, hvb, SV.flatL, SV.flat, Bool.and_true, Bool.true_and, and_self, lookF, reduceCtorEq, Nat.reduceEqDiff, Nat.reduceAdd, Nat.reduceSub, Nat.reduceLT, eq_self,  true_and, List.getElem?_cons_zero, List.getElem?_cons_succ, List.length_cons, List.length_nil, List.append_nil, List.nil_append, List.cons_append, List.take_succ_cons, List.drop_zero, List.take_nil, List.map_cons, List.map_nil, Nat.zero_add, Nat.add_zero, ↓gd_tt, ↓reduceIte, ↓e_load, ↓e_eqb, ↓e_call, Opd.ev, Sx.get, put, putO, del, dels, frD, memD, pickD, views, newer, rd, ↓u_callS, canLW, canV, canC, belowL, apH, apH1, SV.ren, newOwn, targets, rms, Kind.isOwn, Nat.le_refl])
    iterate 2 (rw [evA_n]; simp (config := { maxSteps := 1000000 }) only [Nat.reduceEqDiff, eq_self,  true_and, List.getElem?_cons_zero, List.getElem?_cons_succ, List.nil_append, List.cons_append, ↓gd_tt, ↓reduceIte, ↓e_mv, ↓e_pick, Opd.ev, Sx.get, put, putO, del, dels, frD, memD, pickD, views, newer, Nat.le_refl])
    iterate 3 (rw [evA_g]; simp (config := { maxSteps := 1000000 }) only [gSameC, hlen', fl', tk', un', b0', hsB, SV.flatL, SV.flat, Bool.and_true, Bool.true_and, and_self, lookF, reduceCtorEq, Nat.reduceEqDiff, Nat.reduceAdd, Nat.reduceSub, Nat.reduceLT, false_imp_iff, eq_self,  true_and, List.getElem?_cons_zero, List.getElem?_cons_succ, List.length_cons, List.length_nil, List.append_nil, List.nil_append, List.cons_append, List.take_succ_cons, List.drop_zero, List.take_nil, List.map_cons, List.map_nil, Nat.zero_add, Nat.add_zero, ↓gd_tt, Bool.or_self, ↓reduceIte, ↓e_load, ↓e_call, Opd.ev, Sx.get, put, putO, del, dels, frD, memD, pickD, views, newer, rd, ↓u_callS, canLW, canV, canC, belowL, apH, apH1, SV.ren, newOwn, targets, rms, Kind.isOwn, Nat.le_refl])
    iterate 2 (rw [evA_n]; simp (config := { maxSteps := 1000000 }) only [Nat.reduceEqDiff, eq_self,  true_and, List.getElem?_cons_zero, List.getElem?_cons_succ, List.nil_append, List.cons_append, ↓gd_tt, ↓reduceIte, ↓e_mv, ↓e_pick, Opd.ev, Sx.get, put, putO, del, dels, frD, memD, pickD, views, newer, Nat.le_refl])
    iterate 3 (rw [evA_g]; simp (config := { maxSteps := 1000000 }) only [beq_self_eq_true, beq_self_eq_true, Nat.reduceEqDiff, eq_self,  true_and, List.getElem?_cons_zero, List.getElem?_cons_succ, List.nil_append, List.cons_append, ↓gd_tt, ↓reduceIte, ↓e_mv, ↓e_bin, ↓u_binV, ↓binI, Opd.ev, Sx.get, put, putO, del, dels, frD, memD, pickD, views, newer, Nat.le_refl])
    iterate 2 (rw [evA_n]; simp (config := { maxSteps := 1000000 }) only [Nat.reduceEqDiff, eq_self,  true_and, List.getElem?_cons_zero, List.getElem?_cons_succ, List.nil_append, List.cons_append, ↓gd_tt, ↓reduceIte, ↓e_mv, ↓e_pick, Opd.ev, Sx.get, put, putO, del, dels, frD, memD, pickD, views, newer, Nat.le_refl])
    iterate 7 (rw [evA_g]; simp (config := { maxSteps := 1000000 }) only [↓hsI, ↓g16, hlen, hlen', fl, fl', tk, tk', kl, tkk, SV.flatL, SV.flat, Bool.and_true, Bool.true_and, and_self, lookF, reduceCtorEq, Nat.reduceEqDiff, Nat.reduceAdd, Nat.reduceSub, Nat.reduceLeDiff, Nat.reduceLT, false_imp_iff, eq_self,  true_and, List.getElem?_cons_zero, List.getElem?_cons_succ, List.length_cons, List.length_nil, List.append_nil, List.nil_append, List.cons_append, List.take_succ_cons, List.drop_zero, List.take_nil, List.map_cons, List.map_nil, Nat.zero_add, Nat.add_zero, ↓gd_tt, Bool.or_self, ↓reduceIte, ↓e_load, ↓e_call, Opd.ev, Sx.get, put, putO, del, dels, frD, memD, pickD, views, newer, rd, ↓u_callS, canLW, canV, canC, belowL, apH, apH1, eta, SV.ren, newOwn, targets, rms, Kind.isOwn, ren_ints, flat_ints, len_ints, List.getElem?_nil, Option.getD_none, Nat.le_refl, Nat.mul_one])
    iterate 2 (rw [evA_n]; simp (config := { maxSteps := 1000000 }) only [Nat.reduceEqDiff, eq_self,  true_and, List.getElem?_cons_zero, List.getElem?_cons_succ, List.nil_append, List.cons_append, ↓gd_tt, ↓reduceIte, ↓e_mv, ↓e_pick, Opd.ev, Sx.get, put, putO, del, dels, frD, memD, pickD, views, newer, Nat.le_refl])
    iterate 5 (rw [evA_g]; simp (config := { maxSteps := 1000000 }) only [↓g18, ↓g19, hlen, fl, tk, hss, SV.flatL, SV.flat, Bool.and_true, Bool.true_and, and_self, lookF, reduceCtorEq, Nat.reduceEqDiff, Nat.reduceAdd, Nat.reduceSub, Nat.reduceLT, eq_self,  true_and, List.getElem?_cons_zero, List.getElem?_cons_succ, List.length_cons, List.length_nil, List.append_nil, List.nil_append, List.cons_append, List.take_succ_cons, List.drop_zero, List.take_nil, List.map_cons, List.map_nil, Nat.zero_add, Nat.add_zero, ↓gd_tt, ↓reduceIte, ↓e_load, ↓e_bin, ↓e_call, ↓u_binV, ↓binS, Opd.ev, Sx.get, put, putO, del, dels, frD, memD, pickD, views, newer, rd, ↓u_callS, canLW, canV, canC, belowL, apH, apH1, SV.ren, newOwn, targets, rms, Kind.isOwn, Nat.le_refl])
    iterate 2 (rw [evA_n]; simp (config := { maxSteps := 1000000 }) only [Nat.reduceEqDiff, eq_self,  true_and, List.getElem?_cons_zero, List.getElem?_cons_succ, List.nil_append, List.cons_append, ↓gd_tt, ↓reduceIte, ↓e_mv, ↓e_pick, Opd.ev, Sx.get, put, putO, del, dels, frD, memD, pickD, views, newer, Nat.le_refl])
    iterate 3 (rw [evA_g]; simp (config := { maxSteps := 1000000 }) only [↓g20, hlen, fl, tk, SV.flatL, SV.flat, Bool.and_true, Bool.true_and, and_self, lookF, reduceCtorEq, Nat.reduceEqDiff, Nat.reduceAdd, Nat.reduceSub, Nat.reduceLT, eq_self,  true_and, List.getElem?_cons_zero, List.getElem?_cons_succ, List.length_cons, List.length_nil, List.append_nil, List.nil_append, List.cons_append, List.take_succ_cons, List.drop_zero, List.take_nil, List.map_cons, List.map_nil, Nat.zero_add, Nat.add_zero, ↓gd_tt, ↓reduceIte, ↓e_load, ↓e_call, Opd.ev, Sx.get, put, putO, del, dels, frD, memD, pickD, views, newer, rd, ↓u_callS, canLW, canV, canC, belowL, apH, apH1, SV.ren, newOwn, targets, rms, Kind.isOwn, ren_bytes, Nat.le_refl])
    rw [evA_0]
    simp (config := { maxSteps := 1000000 }) only [↓g21, hlen, fl, tk, ↓heq, SV.flatL, SV.flat, Bool.and_true, Bool.true_and, and_self, lookF, setv, reduceCtorEq, Nat.reduceEqDiff, Nat.reduceSub, Nat.reduceLT, eq_self,  true_and, and_true, List.length_cons, List.length_nil, List.append_nil, List.nil_append, List.cons_append, List.take_succ_cons, List.take_zero, List.drop_succ_cons, List.drop_zero, List.reverse_cons, List.reverse_nil, List.map_cons, List.map_nil, Nat.zero_add, Nat.add_zero, den_nil, den_o0, ↓gd_tt, den_o1, kont_app, den_g, setv, den_A, den_ret, finE_r, ↓reduceIte, ↓e_eqv, ↓e_mv, ↓e_pick, ↓e_call, ↓evRes, Opd.ev, Sx.get, put, putO, del, dels, frD, memD, kills, rd, retOf, ↓u_callS, canLW, canV, canC, belowL, apH, apH1, SV.ren, newOwn, targets, rms, Kind.isOwn, ren_bytes, Nat.le_refl]
    exact ⟨[(0, 0), (1, 0)], rfl, by simp [compat, apartM, keysBelow, idHs, List.take_succ_cons, List.nil_append, List.cons_append, List.take_nil, and_self]⟩
end Go.Proofs.YtkfbkooobfepeaaDoor
