/- The engine, part I: slicing, append, copy, make. -/
import Derived.Test.YtflkcganpgjkkaaDoorEngH
import Derived.IntWalk
namespace Go.Sx
open Go
set_option linter.unusedSimpArgs false
set_option linter.unusedVariables false

section
variable {C : Ctx} {N : Nat} {ρ : Env} {fr : Fr} {m : Mem} {n : Nat} {a : Act} {w : World} {K : Kt} {T : List (Nat × List SV)} {call : CallT}

def optOk : Option Operand → Option Opd → Bool
  | none, none => true
  | some o, some x => opdOk o x
  | _, _ => false

theorem onOpt_is (R : Rel C N ρ fr m n a w) {x : Option Opd} {o : Option Operand} (h : optOk o x = true) {d : Int} {F : Int → Prop} (hk : onOpt fr x d F) :
    (o = none ∧ F d) ∨ ∃ k i, o.map a.eval = some (.int k i) ∧ F i := by
  unfold onOpt at hk
  cases x with
  | none => cases o with
    | none => exact .inl ⟨rfl, hk⟩
    | some o => simp [optOk] at h
  | some x => cases o with
    | none => simp [optOk] at h
    | some o =>
      obtain ⟨k, i, e, hF⟩ := onInt_is hk (ev_is R h)
      exact .inr ⟨k, i, by simp [e], hF⟩

/-- the bounds of a slice expression, worked out -/
theorem bounds_run {P : Program} {isSl : Bool} {len cap : Nat} {lo hi : Option Value} {l h : Int}
    (hlo : (lo = none ∧ l = 0) ∨ ∃ k, lo = some (.int k l)) (hhi : (hi = none ∧ h = len) ∨ ∃ k, hi = some (.int k h))
    (h0 : 0 ≤ l) (h1 : l ≤ h) (h2 : h ≤ cap) :
    (Instr.sliceBounds isSl len cap lo hi none).run P w = .ok (l.toNat, h.toNat, cap) w := by
  have hb : ∀ (k : IntKind) (i : Int) (y : Nat) c, 0 ≤ i → i ≤ y → (Instr.sliceBound (.int k i) y c).run P w = .ok i.toNat w := by
    intro k i y c g1 g2
    simp [Instr.sliceBound, asIntOf, g1, g2]
  unfold Instr.sliceBounds
  have hh : l ≤ (h.toNat : Int) := by omega
  rcases hlo with ⟨rfl, rfl⟩ | ⟨k, rfl⟩ <;> rcases hhi with ⟨rfl, rfl⟩ | ⟨k', rfl⟩
  · simp
  · simp [hb k' h cap _ (by omega) h2]
  · simp [hb k l len _ h0 h1]
  · simp [hb k' h cap _ (by omega) h2, hb k l h.toNat _ h0 hh]

theorem sliced_is {ρ : Env} {L : Loc} {A : Option Addr} {o s len c : Nat} {cap : Option Nat} {l h : Nat} {i : Nat}
    (e1 : ρ i = some L) (hc : c = cap.getD ((L.cap - o) / s))
    (e3 : A = L.blk.map (fun b => (⟨b, L.st + o, none⟩ : Addr)) ∨ (len = 0 ∧ c = 0 ∧ (A = none ↔ L.blk = none)))
    (h1 : l ≤ h) (h2 : h ≤ len) (hlen : len ≤ c) (hs : s = 0 → cap ≠ none) :
    (SV.slc i (o + l * s) s (h - l) (cap.map (· - l))).is ρ (.slice (if c = l then A else A.map (·.add (l * s))) (h - l) (c - l)) := by
  simp only [SV.is]
  have hcap : c - l = (cap.map (· - l)).getD ((L.cap - (o + l * s)) / s) := by
    cases cap with
    | some q => simp at hc ⊢; omega
    | none =>
      simp at hc ⊢
      rw [hc, ← Nat.sub_sub]
      rw [Nat.mul_comm l s]
      by_cases h0 : s * l ≤ L.cap - o
      · rw [Nat.sub_mul_div]
      · have : (L.cap - o) / s ≤ l := by
          have hs0 : 0 < s := by
            rcases Nat.eq_zero_or_pos s with h | h
            · exact (hs h rfl).elim
            · exact h
          apply Nat.le_of_lt
          rw [Nat.div_lt_iff_lt_mul hs0, Nat.mul_comm]; omega
        rw [Nat.sub_eq_zero_of_le this, Nat.sub_eq_zero_of_le (by omega)]; simp
  refine ⟨L, _, e1, by rw [← hcap], ?_⟩
  by_cases hcl : c = l
  · rw [if_pos hcl]
    refine .inr ⟨by omega, by rw [← hcap]; omega, ?_⟩
    rcases e3 with e3 | e3
    · rw [e3]; cases L.blk <;> simp
    · exact e3.2.2
  · rw [if_neg hcl]
    rcases e3 with e3 | e3
    · left; rw [e3]
      cases L.blk <;> simp [Addr.add_mk, Nat.add_assoc]
    · omega

theorem slcS_op (R : Rel C N ρ fr m n a w) {t e : TypeId} {s : Nat} {o : Operand} {x : Opd} {olo ohi : Option Operand} {lo hi : Option Opd} (h1 : opdOk o x = true)
    (h2 : optOk olo lo = true) (h3 : optOk ohi hi = true) (ht : C.P.underlying t = some (.slice e)) (hs : sizeT C.P e = some s) (hs0 : s ≠ 0)
    (hk : exO T call fr m n K (.slcS s x lo hi)) :
    ∃ y, (Instr.sliceAt t (a.eval o) (olo.map a.eval) (ohi.map a.eval) none).run C.P w = .ok y w ∧ Out C ρ K y w := by
  have hv := ev_is R h1
  simp only [exO] at hk
  split at hk
  · rename_i i off s' len cap he
    rw [he] at hv
    obtain ⟨L, A, e1, e2, e3⟩ := by simpa only [SV.is] using hv
    obtain ⟨rfl, hcap, hk⟩ := hk
    have hlen : len ≤ cap.getD ((L.cap - off) / s') := by
      cases cap with
      | some c => simpa using hcap
      | none =>
        obtain ⟨B, eB, hB, hkd, hl⟩ := hcap
        have hcp : B.cells.length ≤ L.cap := by
          cases hb : L.blk with
          | some b => exact (R.mem.cap (rd_mem hB) hkd e1 hb).2.1
          | none =>
            obtain ⟨L', f1, f2⟩ := R.mem.blk i B (rd_mem hB)
            rw [e1] at f1; cases f1
            unfold Blk.okAt at f2; rw [hb] at f2; rw [f2.1]; simp
        simp only [Option.getD_none]
        rw [Nat.le_div_iff_mul_le (by omega)]; omega
    generalize hc : cap.getD ((L.cap - off) / s') = c at hlen e2 e3
    have key : ∀ (l h : Int), ((olo.map a.eval = none ∧ l = 0) ∨ ∃ k, olo.map a.eval = some (.int k l)) → ((ohi.map a.eval = none ∧ h = len) ∨ ∃ k, ohi.map a.eval = some (.int k h)) →
        (0 ≤ l ∧ l ≤ h ∧ h ≤ len ∧ K (.slc i (off + l.toNat * s') s' (h.toNat - l.toNat) (cap.map (· - l.toNat))) m n) →
        ∃ y, (Instr.sliceAt t (a.eval o) (olo.map a.eval) (ohi.map a.eval) none).run C.P w = .ok y w ∧ Out C ρ K y w := by
      rintro l h hl hh ⟨g1, g2, g3, hK⟩
      refine ⟨_, ?_, out_pure R hK (sliced_is e1 hc.symm e3 (by omega) (by omega) hlen (fun h => absurd h hs0))⟩
      simp only [Instr.sliceAt, Sem.run_bind, run_und ht, Result.andThen_ok, Instr.slice, e2]
      rw [bounds_run hl hh g1 g2 (by omega)]
      simp only [Result.andThen_ok, run_sizeOf_of hs, Sem.run_pure]
    rcases onOpt_is R h2 hk with ⟨r1, hk⟩ | ⟨k1, l, r1, hk⟩
    · rcases onOpt_is R h3 hk with ⟨r2, hk⟩ | ⟨k2, h, r2, hk⟩
      · exact key 0 len (.inl ⟨by rw [r1]; rfl, rfl⟩) (.inl ⟨by rw [r2]; rfl, rfl⟩) hk
      · exact key 0 h (.inl ⟨by rw [r1]; rfl, rfl⟩) (.inr ⟨k2, r2⟩) hk
    · rcases onOpt_is R h3 hk with ⟨r2, hk⟩ | ⟨k2, h, r2, hk⟩
      · exact key l len (.inr ⟨k1, r1⟩) (.inl ⟨by rw [r2]; rfl, rfl⟩) hk
      · exact key l h (.inr ⟨k1, r1⟩) (.inr ⟨k2, r2⟩) hk
  · exact hk.elim

/-- an array behind an address, sliced -/
def arrTy (P : Program) (t : TypeId) : Option (Nat × TypeId) :=
  match P.underlying t with
  | some (.array n e) => some (n, e)
  | some (.pointer u) => match P.underlying u with
    | some (.array n e) => some (n, e)
    | _ => none
  | _ => none

theorem slcA_op (R : Rel C N ρ fr m n a w) {t e : TypeId} {s k : Nat} {o : Operand} {x : Opd} {olo ohi : Option Operand} {lo hi : Option Opd} (h1 : opdOk o x = true)
    (h2 : optOk olo lo = true) (h3 : optOk ohi hi = true) (ht : arrTy C.P t = some (k, e)) (hs : sizeT C.P e = some s)
    (hk : exO T call fr m n K (.slcA k s x lo hi)) :
    ∃ y, (Instr.sliceAt t (a.eval o) (olo.map a.eval) (ohi.map a.eval) none).run C.P w = .ok y w ∧ Out C ρ K y w := by
  have hv := ev_is R h1
  simp only [exO] at hk
  split at hk
  · rename_i i off he
    rw [he] at hv
    obtain ⟨L, b, e1, e2, e3⟩ := by simpa only [SV.is] using hv
    have key : ∀ (l h : Int), ((olo.map a.eval = none ∧ l = 0) ∨ ∃ q, olo.map a.eval = some (.int q l)) → ((ohi.map a.eval = none ∧ h = k) ∨ ∃ q, ohi.map a.eval = some (.int q h)) →
        (0 ≤ l ∧ l ≤ h ∧ h ≤ k ∧ K (.slc i (off + l.toNat * s) s (h.toNat - l.toNat) (some (k - l.toNat))) m n) →
        ∃ y, (Instr.sliceAt t (a.eval o) (olo.map a.eval) (ohi.map a.eval) none).run C.P w = .ok y w ∧ Out C ρ K y w := by
      rintro l h hl hh ⟨g1, g2, g3, hK⟩
      have hb := bounds_run (P := C.P) (w := w) (isSl := false) hl hh g1 g2 g3
      have hsl := sliced_is (ρ := ρ) (L := L) (A := some ⟨b, L.st + off, none⟩) (o := off) (s := s) (len := k) (c := k) (cap := some k) (l := l.toNat) (h := h.toNat) e1 rfl (.inl (by rw [e2]; rfl))
        (by omega) (by omega) (Nat.le_refl _) (fun _ h => by cases h)
      refine ⟨_, ?_, out_pure R hK hsl⟩
      unfold arrTy at ht
      cases hu : C.P.underlying t with
      | none => simp [hu] at ht
      | some d =>
        cases d with
        | array n' e' =>
          simp [hu] at ht; obtain ⟨rfl, rfl⟩ := ht
          simp only [Instr.sliceAt, Sem.run_bind, run_und hu, Result.andThen_ok, e3, Instr.sureAddr, Sem.run_pure, hb, run_sizeOf_of hs]
          congr 2
          split <;> simp
        | pointer u =>
          simp only [hu] at ht
          cases hu' : C.P.underlying u with
          | none => simp [hu'] at ht
          | some d' =>
            cases d' with
            | array n' e' =>
              simp [hu'] at ht; obtain ⟨rfl, rfl⟩ := ht
              simp only [Instr.sliceAt, Instr.slice, Sem.run_bind, run_und hu, run_und hu', Result.andThen_ok, e3, asAddr, Sem.run_pure, hb, run_sizeOf_of hs]
              congr 2
              split <;> simp
            | _ => simp [hu'] at ht
        | _ => simp [hu] at ht
    rcases onOpt_is R h2 hk with ⟨r1, hk⟩ | ⟨k1, l, r1, hk⟩
    · rcases onOpt_is R h3 hk with ⟨r2, hk⟩ | ⟨k2, h, r2, hk⟩
      · exact key 0 k (.inl ⟨by rw [r1]; rfl, rfl⟩) (.inl ⟨by rw [r2]; rfl, rfl⟩) hk
      · exact key 0 h (.inl ⟨by rw [r1]; rfl, rfl⟩) (.inr ⟨k2, r2⟩) hk
    · rcases onOpt_is R h3 hk with ⟨r2, hk⟩ | ⟨k2, h, r2, hk⟩
      · exact key l k (.inr ⟨k1, r1⟩) (.inl ⟨by rw [r2]; rfl, rfl⟩) hk
      · exact key l h (.inr ⟨k1, r1⟩) (.inr ⟨k2, r2⟩) hk
  · exact hk.elim

theorem slcT_op (R : Rel C N ρ fr m n a w) {t : TypeId} {o : Operand} {x : Opd} {olo ohi : Option Operand} {lo hi : Option Opd} (h1 : opdOk o x = true)
    (h2 : optOk olo lo = true) (h3 : optOk ohi hi = true) (ht : C.P.underlying t = some .string)
    (hk : exO T call fr m n K (.slcT x lo hi)) :
    ∃ y, (Instr.sliceAt t (a.eval o) (olo.map a.eval) (ohi.map a.eval) none).run C.P w = .ok y w ∧ Out C ρ K y w := by
  have hv := ev_is R h1
  simp only [exO] at hk
  split at hk
  · rename_i s he
    rw [he] at hv
    have e2 := by simpa only [SV.is] using hv
    have hsz : (⟨s.toArray⟩ : ByteArray).size = s.length := by simp [ByteArray.size]
    have key : ∀ (l h : Int), ((olo.map a.eval = none ∧ l = 0) ∨ ∃ k, olo.map a.eval = some (.int k l)) → ((ohi.map a.eval = none ∧ h = s.length) ∨ ∃ k, ohi.map a.eval = some (.int k h)) →
        (0 ≤ l ∧ l ≤ h ∧ h ≤ s.length ∧ K (.str ((s.drop l.toNat).take (h.toNat - l.toNat))) m n) →
        ∃ y, (Instr.sliceAt t (a.eval o) (olo.map a.eval) (ohi.map a.eval) none).run C.P w = .ok y w ∧ Out C ρ K y w := by
      rintro l h hl hh ⟨g1, g2, g3, hK⟩
      refine ⟨.string ⟨((s.drop l.toNat).take (h.toNat - l.toNat)).toArray⟩, ?_, out_pure R hK (by simp only [SV.is])⟩
      simp only [Instr.sliceAt, Sem.run_bind, run_und ht, Result.andThen_ok, Instr.slice, e2, Option.isSome_none, Bool.false_eq_true, if_false, Sem.run_pure, hsz]
      rw [bounds_run hl hh g1 g2 g3]
      simp only [Result.andThen_ok, Sem.run_pure, ByteArray.extract_mk]
    rcases onOpt_is R h2 hk with ⟨r1, hk⟩ | ⟨k1, l, r1, hk⟩
    · rcases onOpt_is R h3 hk with ⟨r2, hk⟩ | ⟨k2, h, r2, hk⟩
      · exact key 0 _ (.inl ⟨by rw [r1]; rfl, rfl⟩) (.inl ⟨by rw [r2]; rfl, rfl⟩) hk
      · exact key 0 h (.inl ⟨by rw [r1]; rfl, rfl⟩) (.inr ⟨k2, r2⟩) hk
    · rcases onOpt_is R h3 hk with ⟨r2, hk⟩ | ⟨k2, h, r2, hk⟩
      · exact key l _ (.inr ⟨k1, r1⟩) (.inl ⟨by rw [r2]; rfl, rfl⟩) hk
      · exact key l h (.inr ⟨k1, r1⟩) (.inr ⟨k2, r2⟩) hk
  · exact hk.elim

theorem arrAt_op (R : Rel C N ρ fr m n a w) {t e : TypeId} {k : Nat} {o : Operand} {x : Opd} (h1 : opdOk o x = true)
    (ht : C.P.underlying t = some (.array k e)) (hk : exO T call fr m n K (.arrAt k x)) :
    ∃ y, (Instr.arrayAt t (a.eval o)).run C.P w = .ok y w ∧ Out C ρ K y w := by
  have hv := ev_is R h1
  simp only [exO] at hk
  split at hk
  · rename_i i off s' len cap he
    rw [he] at hv
    obtain ⟨L, A, e1, e2, e3⟩ := by simpa only [SV.is] using hv
    obtain ⟨k0, k1, ⟨B, hB, hlen⟩, hK⟩ := hk
    obtain ⟨L', b, f1, f2⟩ := blk_some R.mem hB hlen
    rw [e1] at f1; cases f1
    have hA : A = some ⟨b, L.st + off, none⟩ := by
      rcases e3 with e3 | e3
      · rw [e3, f2]; rfl
      · omega
    refine ⟨.pointer (some ⟨b, L.st + off, none⟩), ?_, out_pure R hK (by simp only [SV.is]; exact ⟨L, b, e1, f2, rfl⟩)⟩
    simp [Instr.arrayAt, run_und ht, e2, hA, Nat.not_lt.2 k1]
  · exact hk.elim

theorem mksl_op (R : Rel C N ρ fr m n a w) {t e : TypeId} {s bytes : Nat} {z : List SV} {i : TypeInfo} {zv : Value} {ol oc : Operand} {l c : Opd} (h1 : opdOk ol l = true) (h2 : opdOk oc c = true)
    (ht : C.P.underlying t = some (.slice e)) (hi : C.P.info? e = some i) (hb : i.bytes = bytes) (hs : i.size = s) (hz : i.zero = some zv) (hzz : cstsOk z zv.cells.toList = true) (hzs : z.length = s)
    (hk : exO T call fr m n K (.mksl e s bytes z l c)) :
    ∃ y w', (Instr.makeSlice t (a.eval ol) (a.eval oc)).run C.P w = .ok y w' ∧ Out C ρ K y w' := by
  simp only [exO] at hk
  obtain ⟨k1, ln, e1, hk⟩ := onInt_is hk (ev_is R h1)
  obtain ⟨k2, cp, e2, hk⟩ := onInt_is hk (ev_is R h2)
  obtain ⟨g1, g2, g3, g4, hK⟩ := hk
  obtain ⟨q1, q2⟩ := cstsOk_is (ρ := ρ) hzz
  have hzl : zv.cells.size = s := by have := SV.isL_length q1; simp at this; omega
  have hwr : ∀ v : Int, 0 ≤ v → v ≤ 2 ^ 40 → IntKind.i64.wrap v = v := by
    intro v v0 v1
    exact IntWalk.i64_in _ (by omega)
  let xs : Array Value := (Array.range (cp.toNat * s)).map (fun j => zv.cells[j % zv.cells.size]!)
  have hx1 : SV.isL ρ (rep cp.toNat z) xs.toList := by
    refine SV.isL_of_get (by simp [xs, rep, hzs]) fun j v hj => ?_
    simp only [rep, List.getElem?_map, Option.map_eq_some_iff, hzs] at hj
    obtain ⟨j', hj', rfl⟩ := hj
    have hlt : j < cp.toNat * s := by
      rcases Nat.lt_or_ge j (cp.toNat * s) with h | h
      · exact h
      · rw [List.getElem?_eq_none (by simpa using h)] at hj'; cases hj'
    rw [List.getElem?_eq_getElem (by simpa using hlt)] at hj'
    simp at hj'; subst hj'
    have hs0 : 0 < s := by
      rcases Nat.eq_zero_or_pos s with h | h
      · rw [h] at hlt; omega
      · exact h
    have hm : j % s < z.length := by rw [hzs]; exact Nat.mod_lt _ hs0
    obtain ⟨x, r1, r2⟩ := SV.isL_get q1 (j % s) z[j % s] (List.getElem?_eq_getElem hm)
    refine ⟨x, ?_, ?_⟩
    · have hm' : j % s < zv.cells.size := by rw [hzl]; exact Nat.mod_lt _ hs0
      simp only [xs, Array.getElem?_toList, Array.getElem?_map]
      simp [hlt, hzl]
      simp [hm'] at r1
      rw [getElem!_pos zv.cells (j % s) hm']; exact r1
    · rw [List.getD_eq_getElem?_getD, List.getElem?_eq_getElem hm]; exact r2
  have hx2 : ∀ y ∈ xs.toList, y.oneCell' = true := by
    intro y hy
    simp only [xs, Array.toList_map, Array.toList_range, List.mem_map, List.mem_range] at hy
    obtain ⟨j, hj, rfl⟩ := hy
    have hs0 : 0 < s := by
      rcases Nat.eq_zero_or_pos s with h | h
      · rw [h] at hj; omega
      · exact h
    have hm' : j % zv.cells.size < zv.cells.size := by rw [hzl]; exact Nat.mod_lt _ hs0
    rw [getElem!_pos zv.cells _ hm']
    exact q2 _ (by simp)
  refine ⟨.slice (some ⟨w.heap.size, 0, none⟩) ln.toNat cp.toNat, { w with heap := w.heap.push (.cells xs e) }, ?_, out_new R hx1 hx2 (by exact ⟨rfl, rfl⟩) (by simp) hK ?_⟩
  · have hln := hwr ln g1 (by omega)
    have hcp := hwr cp (by omega) g4
    have hti : (typeInfo e).run C.P w = .ok i w := by simp [typeInfo, hi]
    have hbn : ¬ ((bytes : Int) * cp > 281474976710656) := by
      have : (bytes : Int) * cp = cp * bytes := Int.mul_comm _ _
      omega
    have hsize : (sizeOf e).run C.P w = .ok s w := run_sizeOf_of (by simp [hi, hs]) w
    have hc1 : ¬ cp < 0 := by omega
    have hc2 : ¬ ln < 0 := by omega
    have hc3 : ¬ ln > cp := by omega
    simp only [Instr.makeSlice, Sem.run_bind, run_und ht, Result.andThen_ok, e1, e2, asInt, asIntOf, Sem.run_pure, hti, hb, hln, hcp, hc1, hc2, hc3, decide_false, hbn, Bool.false_or, Bool.false_eq_true, if_false, or_self, Bool.or_self, run_askRoom, hsize]
    have hbn2 : ¬ ((281474976710656 : Int) < (bytes : Int) * cp) := by omega
    by_cases h0 : cp.toNat * s = 0
    · have hr0 : Array.range 0 = #[] := rfl
      simp [h0, newRow, xs, hbn2, hsize, hr0]
    · have hzr : (zeroValue e).run C.P w = .ok zv w := by simp [zeroValue, typeInfo, hi, hz]
      simp [h0, newRow, xs, hzr, hbn2, hsize]
  · simp only [SV.is]; exact ⟨_, some ⟨w.heap.size, 0, none⟩, set_self, rfl, .inl rfl⟩
end
end Go.Sx
