/- The engine, part E: each operation of the model does what the symbolic operation says (second half: addresses, values, numbers). -/
import Derived.Test.YtflkcganpgjkkaaDoorEngD
namespace Go.Sx
open Go
set_option linter.unusedSimpArgs false
set_option linter.unusedVariables false

def sizeT (P : Program) (t : TypeId) : Option Nat := (P.info? t).map (·.size)

theorem run_und {P : Program} {t : TypeId} {d : TypeDesc} (h : P.underlying t = some d) (w : World) : (underlying t).run P w = .ok d w := by
  simp [underlying, h]

section
variable {C : Ctx} {N : Nat} {ρ : Env} {fr : Fr} {m : Mem} {n : Nat} {a : Act} {w : World} {K : Kt} {T : List (Nat × List SV)} {call : CallT}

theorem fieldPlace_run {P : Program} {A : Addr} {f : Field} {k : Nat} (h : sizeT P f.type = some k) (hk : k ≠ 0) :
    (fieldPlace A f).run P w = .ok (A.add f.offset) w := by
  unfold fieldPlace; simp [run_sizeOf_of h, hk]

theorem fld_ok (R : Rel C N ρ fr m n a w) {s : TypeId} {fs : Array Field} {f : Nat} {fd : Field} {k : Nat} {o : Operand} {x : Opd}
    (h1 : opdOk o x = true) (h2 : C.P.underlying s = some (.struct fs)) (h3 : fs[f]? = some fd) (h4 : sizeT C.P fd.type = some k) (h5 : k ≠ 0)
    (hk : exO T call fr m n K (.fld x fd.offset)) :
    ∃ y, (Instr.fieldAt s (a.eval o) f).run C.P w = .ok y w ∧ Out C ρ K y w := by
  have hv := ev_is R h1
  simp only [exO] at hk
  split at hk
  · rename_i i off he
    rw [he] at hv
    obtain ⟨L, b, e1, e2, e3⟩ := by simpa only [SV.is] using hv
    rw [e3]
    refine ⟨.pointer (some ⟨b, L.st + (off + fd.offset), none⟩), ?_, out_pure R hk ?_⟩
    · simp [Instr.fieldAt, run_und h2, h3, Instr.sureAddr, fieldPlace_run h4 h5, Addr.add_mk, Nat.add_assoc]
    · simp only [SV.is]; exact ⟨L, b, e1, e2, rfl⟩
  · rename_i i off he
    rw [he] at hv
    have e3 := by simpa only [SV.is] using hv
    rw [e3]
    refine ⟨.pointer (some ⟨i, off + fd.offset, none⟩), ?_, out_pure R hk ?_⟩
    · simp [Instr.fieldAt, run_und h2, h3, Instr.sureAddr, fieldPlace_run h4 h5, Addr.add_mk]
    · simp only [SV.is]
  · exact hk.elim

theorem onInt_is {v : SV} {F : Int → Prop} (h : onInt v F) {x : Value} (hv : v.is ρ x) : ∃ k i, x = .int k i ∧ F i := by
  unfold onInt at h
  split at h
  · exact ⟨_, _, by simpa only [SV.is] using hv, h⟩
  · exact h.elim
theorem onBool_is {v : SV} {F : Bool → Prop} (h : onBool v F) {x : Value} (hv : v.is ρ x) : ∃ b, x = .bool b ∧ F b := by
  unfold onBool at h
  split at h
  · exact ⟨_, by simpa only [SV.is] using hv, h⟩
  · exact h.elim

theorem idxA_ok (R : Rel C N ρ fr m n a w) {t e : TypeId} {len s : Nat} {o oi : Operand} {x i : Opd}
    (h1 : opdOk o x = true) (h2 : opdOk oi i = true) (h3 : C.P.underlying t = some (.array len e)) (h4 : sizeT C.P e = some s)
    (hk : exO T call fr m n K (.idxA x i len s)) :
    ∃ y, (Instr.indexAt t (a.eval o) (a.eval oi)).run C.P w = .ok y w ∧ Out C ρ K y w := by
  have hv := ev_is R h1
  have hi := ev_is R h2
  simp only [exO] at hk
  obtain ⟨k, ix, e0, h5, h6, hk⟩ := onInt_is hk hi
  rw [e0]
  split at hk
  · rename_i j off he
    rw [he] at hv
    obtain ⟨L, b, e1, e2, e3⟩ := by simpa only [SV.is] using hv
    rw [e3]
    refine ⟨.pointer (some ⟨b, L.st + (off + ix.toNat * s), none⟩), ?_, out_pure R hk ?_⟩
    · simp [Instr.indexAt, asIntOf, run_und h3, Instr.sureAddr, h5, h6, run_sizeOf_of h4, Addr.add_mk, Nat.add_assoc]
    · simp only [SV.is]; exact ⟨L, b, e1, e2, rfl⟩
  · rename_i j off he
    rw [he] at hv
    have e3 := by simpa only [SV.is] using hv
    rw [e3]
    refine ⟨.pointer (some ⟨j, off + ix.toNat * s, none⟩), ?_, out_pure R hk ?_⟩
    · simp [Instr.indexAt, asIntOf, run_und h3, Instr.sureAddr, h5, h6, run_sizeOf_of h4, Addr.add_mk]
    · simp only [SV.is]
  · exact hk.elim

theorem idxS_ok (R : Rel C N ρ fr m n a w) {t e : TypeId} {s : Nat} {o oi : Operand} {x i : Opd}
    (h1 : opdOk o x = true) (h2 : opdOk oi i = true) (h3 : C.P.underlying t = some (.slice e)) (h4 : sizeT C.P e = some s)
    (hk : exO T call fr m n K (.idxS x i s)) :
    ∃ y, (Instr.indexAt t (a.eval o) (a.eval oi)).run C.P w = .ok y w ∧ Out C ρ K y w := by
  have hv := ev_is R h1
  have hi := ev_is R h2
  simp only [exO] at hk
  obtain ⟨k, ix, e0, hk⟩ := onInt_is hk hi
  rw [e0]
  split at hk
  · rename_i j off s' len cap he
    obtain ⟨rfl, h5, h6, B, hB, h7, hk⟩ := hk
    rw [he] at hv
    obtain ⟨L, A, e1, e2, e3⟩ := by simpa only [SV.is] using hv
    obtain ⟨L', b, f1, f2⟩ := blk_some R.mem hB h7
    rw [e1] at f1; cases f1
    have hA : A = some ⟨b, L.st + off, none⟩ := by
      rcases e3 with e3 | e3
      · rw [e3, f2]; rfl
      · have := e3.1; omega
    rw [e2, hA]
    refine ⟨.pointer (some ⟨b, L.st + (off + ix.toNat * s'), none⟩), ?_, out_pure R hk ?_⟩
    · simp [Instr.indexAt, asIntOf, run_und h3, h5, h6, run_sizeOf_of h4, Addr.add_mk, Nat.add_assoc]
    · simp only [SV.is]; exact ⟨L, b, e1, f2, rfl⟩
  · exact hk.elim

theorem run_part_cell {P : Program} {t : TypeId} (h : aggOf P t = some none) {cs : Array Value} {o : Nat} {x : Value} (hx : cs[o]? = some x) :
    (part t cs o).run P w = .ok x w := by
  unfold part; simp [run_isAgg h, hx]
theorem run_part_cells {P : Program} {t : TypeId} {k : Nat} (h : aggOf P t = some (some k)) {cs : Array Value} {o : Nat} :
    (part t cs o).run P w = .ok (.agg (cs.extract o (o + k))) w := by
  unfold part; simp [run_isAgg h, run_sizeOf_of (aggOf_size h)]

theorem isL_take {ρ : Env} : ∀ {l : List SV} {xs : List Value} (k : Nat), SV.isL ρ l xs → SV.isL ρ (l.take k) (xs.take k)
  | [], xs, k, h => by simp only [SV.isL] at h; subst h; simp [SV.isL]
  | v :: l, xs, 0, h => by simp [SV.isL]
  | v :: l, xs, k + 1, h => by
    simp only [SV.isL] at h
    obtain ⟨y, ys, rfl, h1, h2⟩ := h
    simp only [List.take_succ_cons, SV.isL]
    exact ⟨y, _, rfl, h1, isL_take k h2⟩
theorem isL_drop {ρ : Env} : ∀ {l : List SV} {xs : List Value} (k : Nat), SV.isL ρ l xs → SV.isL ρ (l.drop k) (xs.drop k)
  | [], xs, k, h => by simp only [SV.isL] at h; subst h; simp [SV.isL]
  | v :: l, xs, 0, h => by simpa using h
  | v :: l, xs, k + 1, h => by
    simp only [SV.isL] at h
    obtain ⟨y, ys, rfl, h1, h2⟩ := h
    simpa using isL_drop k h2
theorem isL_append {ρ : Env} : ∀ {l l' : List SV} {xs xs' : List Value}, SV.isL ρ l xs → SV.isL ρ l' xs' → SV.isL ρ (l ++ l') (xs ++ xs')
  | [], l', xs, xs', h, h' => by simp only [SV.isL] at h; subst h; simpa using h'
  | v :: l, l', xs, xs', h, h' => by
    simp only [SV.isL] at h
    obtain ⟨y, ys, rfl, h1, h2⟩ := h
    simp only [List.cons_append, SV.isL]
    exact ⟨y, _, rfl, h1, isL_append h2 h'⟩

/-- a part of an aggregate by value -/
theorem part_ok (R : Rel C N ρ fr m n a w) {t : TypeId} {g : Option Nat} (h : aggOf C.P t = some g) {l : List SV} {xs : List Value} (hl : SV.isL ρ l xs)
    (h1 : ∀ y ∈ xs, y.oneCell' = true) {o : Nat}
    (hk : match g with | some k => K (.agg ((l.drop o).take k)) m n | none => ∃ v, l[o]? = some v ∧ K v m n) :
    ∃ y, (part t xs.toArray o).run C.P w = .ok y w ∧ Out C ρ K y w := by
  cases g with
  | none =>
    obtain ⟨v, hv, hK⟩ := hk
    obtain ⟨x, e1, e2⟩ := SV.isL_get hl o v hv
    exact ⟨x, run_part_cell h (by simpa using e1), out_pure R hK e2⟩
  | some k =>
    refine ⟨.agg ((xs.drop o).take k).toArray, ?_, out_pure R hk ?_⟩
    · rw [run_part_cells h]; simp
    · simp only [SV.is]
      exact ⟨_, isL_take k (isL_drop o hl), fun y hy => h1 y (List.mem_of_mem_drop (List.mem_of_mem_take hy)), rfl⟩

theorem idxV_ok (R : Rel C N ρ fr m n a w) {t e : TypeId} {len s : Nat} {agg : Bool} {g : Option Nat} {o oi : Operand} {x i : Opd}
    (h1 : opdOk o x = true) (h2 : opdOk oi i = true) (h3 : C.P.underlying t = some (.array len e)) (h4 : sizeT C.P e = some s)
    (h5 : aggOf C.P e = some g) (h6 : g = if agg then some s else none) (hk : exO T call fr m n K (.idxV x i len s agg)) :
    ∃ y, (Instr.index t (a.eval o) (a.eval oi)).run C.P w = .ok y w ∧ Out C ρ K y w := by
  have hv := ev_is R h1
  have hi := ev_is R h2
  simp only [exO] at hk
  obtain ⟨k, ix, e0, h7, h8, hk⟩ := onInt_is hk hi
  rw [e0]
  split at hk
  · rename_i l he
    rw [he] at hv
    obtain ⟨xs, e1, e2, e3⟩ := by simpa only [SV.is] using hv
    rw [e3]
    obtain ⟨y, f1, f2⟩ := part_ok R h5 e1 e2 (o := ix.toNat * s) (by subst h6; cases agg <;> simpa using hk)
    refine ⟨y, ?_, f2⟩
    simp [Instr.index, asIntOf, run_und h3, h7, h8, run_sizeOf_of h4, f1]
  · exact hk.elim

theorem fieldV_ok (R : Rel C N ρ fr m n a w) {s : TypeId} {fs : Array Field} {f : Nat} {fd : Field} {g : Option Nat} {o : Operand} {x : Opd}
    (h1 : opdOk o x = true) (h2 : C.P.underlying s = some (.struct fs)) (h3 : fs[f]? = some fd) (h4 : aggOf C.P fd.type = some g)
    (hk : exO T call fr m n K (.fieldV x fd.offset g)) :
    ∃ y, (Instr.field s (a.eval o) f).run C.P w = .ok y w ∧ Out C ρ K y w := by
  have hv := ev_is R h1
  simp only [exO] at hk
  split at hk
  · rename_i l he
    rw [he] at hv
    obtain ⟨xs, e1, e2, e3⟩ := by simpa only [SV.is] using hv
    rw [e3]
    obtain ⟨y, f1, f2⟩ := part_ok R h4 e1 e2 (o := fd.offset) (by cases g <;> simpa using hk)
    exact ⟨y, by simp [Instr.field, run_und h2, h3, asAgg, f1], f2⟩
  · exact hk.elim

theorem idxT_ok (R : Rel C N ρ fr m n a w) {t : TypeId} {o oi : Operand} {x i : Opd}
    (h1 : opdOk o x = true) (h2 : opdOk oi i = true) (h3 : C.P.underlying t = some .string)
    (hk : exO T call fr m n K (.idxT x i)) :
    ∃ y, (Instr.index t (a.eval o) (a.eval oi)).run C.P w = .ok y w ∧ Out C ρ K y w := by
  have hv := ev_is R h1
  have hi := ev_is R h2
  simp only [exO] at hk
  obtain ⟨k, ix, e0, h7, hk⟩ := onInt_is hk hi
  rw [e0]
  split at hk
  · rename_i l he
    rw [he] at hv
    have e3 := by simpa only [SV.is] using hv
    obtain ⟨c, hc, hK⟩ := hk
    rw [e3]
    refine ⟨.int .u8 c.toNat, ?_, out_pure R hK (by simp [SV.byte, SV.is])⟩
    have hlt : ix.toNat < l.length := by
      rcases Nat.lt_or_ge ix.toNat l.length with h | h
      · exact h
      · rw [List.getElem?_eq_none h] at hc; cases hc
    have hg : (⟨l.toArray⟩ : ByteArray)[ix.toNat]? = some c := by
      rw [ByteArray.getElem?_lt' _ _ (by simpa [ByteArray.size] using hlt)]
      rw [List.getElem?_eq_getElem hlt] at hc; cases hc; rfl
    simp [Instr.index, asIntOf, run_und h3, h7, hg]
  · exact hk.elim

theorem eqGuard_run (op : BinOp) (t : TypeId) (x y : Operand) (u v : Value) (hu : u ≠ .nilIface) (hu' : ∀ c, u ≠ .agg c) :
    (eqGuard op t x y u v).run C.P w = .ok () w := by
  unfold eqGuard
  cases op <;> simp <;> (cases u <;> simp_all)

theorem binI_run {op : BinOp} {k k' : IntKind} {i j : Int} {F : SV → Prop} {t : TypeId} (h : binI op k k' i j F) :
    ∃ v y, (binOp op t (.int k i) (.int k' j)).run C.P w = .ok y w ∧ F v ∧ v.is ρ y := by
  unfold binI at h
  split at h
  case h_1 => obtain ⟨h0, hF⟩ := h; exact ⟨_, _, by simp [binOp, Op.shift, Int.not_lt.2 h0]; rfl, hF, by simp [SV.is]⟩
  case h_2 => obtain ⟨h0, hF⟩ := h; exact ⟨_, _, by simp [binOp, Op.shift, Int.not_lt.2 h0]; rfl, hF, by simp [SV.is]⟩
  case h_6 => obtain ⟨rfl, h0, hF⟩ := h; exact ⟨_, _, by simp [binOp, Op.intDiv, h0]; rfl, hF, by simp [SV.is]⟩
  case h_7 => obtain ⟨rfl, h0, hF⟩ := h; exact ⟨_, _, by simp [binOp, Op.intDiv, h0]; rfl, hF, by simp [SV.is]⟩
  case h_8 => obtain ⟨rfl, hF⟩ := h; exact ⟨_, .int k (bitop .and k i j), by show Sem.run _ (if k ≠ k then _ else _) w = _; rw [if_neg (by simp)]; rfl, hF, by simp only [SV.is]⟩
  case h_9 => obtain ⟨rfl, hF⟩ := h; exact ⟨_, .int k (bitop .or k i j), by show Sem.run _ (if k ≠ k then _ else _) w = _; rw [if_neg (by simp)]; rfl, hF, by simp only [SV.is]⟩
  case h_10 => obtain ⟨rfl, hF⟩ := h; exact ⟨_, .int k (bitop .xor k i j), by show Sem.run _ (if k ≠ k then _ else _) w = _; rw [if_neg (by simp)]; rfl, hF, by simp only [SV.is]⟩
  case h_11 => obtain ⟨rfl, hF⟩ := h; exact ⟨_, .int k (bitop .andNot k i j), by show Sem.run _ (if k ≠ k then _ else _) w = _; rw [if_neg (by simp)]; rfl, hF, by simp only [SV.is]⟩
  case h_3 => obtain ⟨rfl, hF⟩ := h; exact ⟨_, _, by simp [binOp, Op.intArith]; rfl, hF, by simp [SV.is]⟩
  case h_4 => obtain ⟨rfl, hF⟩ := h; exact ⟨_, _, by simp [binOp, Op.intArith]; rfl, hF, by simp [SV.is]⟩
  case h_5 => obtain ⟨rfl, hF⟩ := h; exact ⟨_, _, by simp [binOp, Op.intArith]; rfl, hF, by simp [SV.is]⟩
  all_goals
    obtain ⟨rfl, hF⟩ := h
    exact ⟨_, _, by simp [binOp, Op.intCmp]; rfl, hF, by simp [SV.is]⟩

theorem strAdd (s t : List UInt8) : (⟨s.toArray⟩ : ByteArray) ++ ⟨t.toArray⟩ = ⟨(s ++ t).toArray⟩ := by
  apply ByteArray.ext; simp

theorem binS_run {op : BinOp} {s t : List UInt8} {F : SV → Prop} {ty : TypeId} (h : binS op s t F) :
    ∃ v y, (binOp op ty (.string ⟨s.toArray⟩) (.string ⟨t.toArray⟩)).run C.P w = .ok y w ∧ F v ∧ v.is ρ y := by
  unfold binS at h
  split at h
  · obtain ⟨h0, hF⟩ := h
    refine ⟨_, .string ⟨(s ++ t).toArray⟩, ?_, hF, by simp only [SV.is]⟩
    have h1 : ¬ ((((⟨s.toArray⟩ : ByteArray).size + (⟨t.toArray⟩ : ByteArray).size : Nat) : Int) > IntKind.i64.max) := by
      unfold maxStr at h0
      simp [ByteArray.size, IntKind.max, IntKind.signed, IntKind.bits]; omega
    simp only [binOp, Op.stringOp, Sem.run_ite, if_neg h1]
    rw [strAdd]; rfl
  case h_8 => exact h.elim
  all_goals exact ⟨_, _, by simp [binOp, Op.stringOp]; rfl, h, by simp [SV.is]⟩

theorem bin_ok (R : Rel C N ρ fr m n a w) {op : BinOp} {t t' : TypeId} {o o' : Operand} {x y : Opd}
    (h1 : opdOk o x = true) (h2 : opdOk o' y = true) (hk : exO T call fr m n K (.bin op x y)) :
    ∃ z, (do eqGuard op t o o' (a.eval o) (a.eval o'); binOp op t (a.eval o) (a.eval o') : Sem Value).run C.P w = .ok z w ∧ Out C ρ K z w := by
  have hv := ev_is R h1
  have hi := ev_is R h2
  simp only [exO] at hk
  unfold binV at hk
  split at hk
  · rename_i k i k' j he he'
    rw [he] at hv; rw [he'] at hi
    have e1 := by simpa only [SV.is] using hv
    have e2 := by simpa only [SV.is] using hi
    rw [e1, e2]
    obtain ⟨v, z, f1, f2, f3⟩ := binI_run (C := C) (ρ := ρ) (w := w) (t := t) hk
    exact ⟨z, by simp [eqGuard_run, f1], out_pure R f2 f3⟩
  · rename_i s s' he he'
    rw [he] at hv; rw [he'] at hi
    have e1 := by simpa only [SV.is] using hv
    have e2 := by simpa only [SV.is] using hi
    rw [e1, e2]
    obtain ⟨v, z, f1, f2, f3⟩ := binS_run (C := C) (ρ := ρ) (w := w) (ty := t) hk
    exact ⟨z, by simp [eqGuard_run, f1], out_pure R f2 f3⟩
  · exact hk.elim

theorem un_ok (R : Rel C N ρ fr m n a w) {op : UnOp} {o : Operand} {x : Opd} (h1 : opdOk o x = true) (hk : exO T call fr m n K (.un op x)) :
    ∃ y, (Op.unary op (a.eval o)).run C.P w = .ok y w ∧ Out C ρ K y w := by
  have hv := ev_is R h1
  simp only [exO] at hk
  split at hk
  · rename_i b he
    rw [he] at hv
    have e := by simpa only [SV.is] using hv
    rw [e]; exact ⟨_, rfl, out_pure R hk (by simp only [SV.is])⟩
  · rename_i k i he
    rw [he] at hv
    have e := by simpa only [SV.is] using hv
    rw [e]; exact ⟨_, rfl, out_pure R hk (by simp only [SV.is])⟩
  · rename_i k i he
    rw [he] at hv
    have e := by simpa only [SV.is] using hv
    rw [e]; exact ⟨_, rfl, out_pure R hk (by simp only [SV.is, bitop])⟩
  · exact hk.elim

theorem conv_ok (R : Rel C N ρ fr m n a w) {s d : TypeId} {u : TypeDesc} {k : IntKind} {o : Operand} {x : Opd} (h1 : opdOk o x = true)
    (h2 : C.P.underlying s = some u) (h3 : C.P.underlying d = some (.int k)) (hk : exO T call fr m n K (.conv k x)) :
    ∃ y, (convert s d (a.eval o)).run C.P w = .ok y w ∧ Out C ρ K y w := by
  have hv := ev_is R h1
  simp only [exO] at hk
  split at hk
  · rename_i k' i he
    rw [he] at hv
    have e := by simpa only [SV.is] using hv
    rw [e]
    refine ⟨.int k (k.wrap i), ?_, out_pure R hk (by simp only [SV.is])⟩
    simp [convert, run_und h2, run_und h3, Conv.intToInt]
  · exact hk.elim
end
end Go.Sx
