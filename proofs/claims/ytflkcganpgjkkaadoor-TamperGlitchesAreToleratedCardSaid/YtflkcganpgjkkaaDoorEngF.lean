/- The engine, part F: operations that make and write memory. -/
import Derived.Test.YtflkcganpgjkkaaDoorEngE
namespace Go.Sx
open Go
set_option linter.unusedSimpArgs false
set_option linter.unusedVariables false

theorem setCell_facts {w : World} {b o : Nat} {cs : Array Value} {e : TypeId} {fz : Nat × Nat} (h : w.heap[b]? = some (.cells cs e fz)) (v : Value) :
    (w.setCell ⟨b, o, none⟩ v).heap[b]? = some (.cells (cs.setIfInBounds o v) e fz) ∧ (w.setCell ⟨b, o, none⟩ v).heap.size = w.heap.size ∧
    ∀ b', b' ≠ b → (w.setCell ⟨b, o, none⟩ v).heap[b']? = w.heap[b']? := by
  refine ⟨?_, ?_, fun b' hb => ?_⟩
  · simp [World.setCell, Array.getElem?_modify, h]
  · simp [World.setCell]
  · simp [World.setCell, Array.getElem?_modify, Ne.symm hb]

theorem storeCells_run {P : Program} {b o : Nat} {e : TypeId} {fz : Nat × Nat} : ∀ (vs : List Value) (i : Nat) (w : World) (cs : Array Value),
    w.heap[b]? = some (.cells cs e fz) → o + i + vs.length ≤ cs.size → (fz.2 ≤ fz.1 ∨ cs.size ≤ fz.1) → (∀ y ∈ vs, y.oneCell' = true) →
    ∃ w' cs', (storeCells ⟨b, o, none⟩ vs i).run P w = .ok () w' ∧ w'.heap[b]? = some (.cells cs' e fz) ∧ cs'.size = cs.size ∧
      (∀ j, j < o + i → cs'[j]? = cs[j]?) ∧ (∀ j, o + i + vs.length ≤ j → cs'[j]? = cs[j]?) ∧ (∀ j, j < vs.length → cs'[o + i + j]? = vs[j]?) ∧
      w'.heap.size = w.heap.size ∧ (∀ b', b' ≠ b → w'.heap[b']? = w.heap[b']?) ∧ w'.os = w.os ∧ w'.output = w.output
  | [], i, w, cs, h, _, _, _ => ⟨w, cs, rfl, h, rfl, fun _ _ => rfl, fun _ _ => rfl, fun j hj => by simp at hj, rfl, fun _ _ => rfl, rfl, rfl⟩
  | v :: vs, i, w, cs, h, hlen, hfz, h1 => by
    simp only [List.length_cons] at hlen
    have hlt : o + i < cs.size := by omega
    have hc : w.cell? ⟨b, o + i, none⟩ = some cs[o + i] := by rw [cell?_cells h]; exact Array.getElem?_eq_getElem hlt
    have hf : w.frozen? ⟨b, o + i, none⟩ = false := by
      obtain ⟨lo, hi⟩ := fz
      unfold World.frozen?; simp only [h]
      simp at hfz ⊢; omega
    obtain ⟨g1, g2, g3⟩ := setCell_facts (o := o + i) h v
    obtain ⟨w', cs', e1, e2, e3, e4, e5, e6, e7, e8, e9⟩ := storeCells_run (P := P) (o := o) vs (i + 1) (w.setCell ⟨b, o + i, none⟩ v) (cs.setIfInBounds (o + i) v) g1
      (by simp; omega) (by simpa using hfz) (fun y hy => h1 y (List.mem_cons_of_mem _ hy))
    refine ⟨w', cs', ?_, e2, by simpa using e3, fun j hj => ?_, fun j hj => ?_, fun j hj => ?_, by omega, fun b' hb => by rw [e8 b' hb, g3 b' hb], e9⟩
    · rw [storeCells]
      rw [Addr.add_mk, Sem.run_bind, run_store P w _ v _ (h1 v List.mem_cons_self), hc]
      simp only [hf, Bool.false_eq_true, if_false, Result.andThen_ok]
      exact e1
    · rw [e4 j (by omega), Array.getElem?_setIfInBounds_ne (by omega)]
    · simp only [List.length_cons] at hj
      rw [e5 j (by omega), Array.getElem?_setIfInBounds_ne (by omega)]
    · cases j with
      | zero =>
        rw [e4 _ (by omega)]
        simp [hlt]
      | succ j =>
        have := e6 j (by simpa using hj)
        rw [show o + i + (j + 1) = o + (i + 1) + j by omega, this]; simp

section
variable {C : Ctx} {N : Nat} {ρ : Env} {fr : Fr} {m : Mem} {n : Nat} {a : Act} {w : World} {K : Kt} {T : List (Nat × List SV)} {call : CallT}

theorem MemOk.cap (R : MemOk C ρ m n w) {i : Nat} {B : Blk} {e : TypeId} (h : (i, B) ∈ m) (hk : B.kind = .own e) {L : Loc} (hL : ρ i = some L) {b : Nat} (hb : L.blk = some b) :
    L.st = 0 ∧ B.cells.length ≤ L.cap ∧ ∃ cs fz, w.heap[b]? = some (.cells cs e fz) ∧ cs.size = L.cap ∧ (fz.2 ≤ fz.1 ∨ cs.size ≤ fz.1) := by
  obtain ⟨L', h1, h2⟩ := R.blk i B h
  rw [hL] at h1; cases h1
  unfold Blk.okAt at h2; rw [hb] at h2; simp only [hk] at h2
  exact h2.2.2

/-- writing a run of cells into an own block -/
theorem splice_ok (R : MemOk C ρ m n w) {i : Nat} {B : Blk} {e : TypeId} (hB : (i, B) ∈ m) (hk : B.kind = .own e) {L : Loc} (hL : ρ i = some L) {b : Nat} (hb : L.blk = some b)
    {l : List SV} {xs : List Value} (hl : SV.isL ρ l xs) (h1 : ∀ y ∈ xs, y.oneCell' = true) {o : Nat} (ho : o + l.length ≤ B.cells.length) (P : Program) :
    ∃ w', (storeCells ⟨b, o, none⟩ xs).run P w = .ok () w' ∧ MemOk C ρ (upd m i ⟨.own e, splice B.cells o l⟩) n w' := by
  obtain ⟨hst, hcap, cs, fz, hh, hsz, hfz⟩ := R.cap hB hk hL hb
  have hxl := SV.isL_length hl
  obtain ⟨w', cs', e1, e2, e3, e4, e5, e6, e7, e8, e9⟩ := storeCells_run (P := P) (o := o) xs 0 w cs hh (by omega) hfz h1
  have hc : B.cellsOk ρ w b 0 := by
    obtain ⟨L', h1', h2'⟩ := R.blk i B hB
    rw [hL] at h1'; cases h1'
    unfold Blk.okAt at h2'; rw [hb, hst] at h2'; exact h2'.2.1
  refine ⟨w', e1, R.write hB hk hL hb cs' fz _ e2 e7 e9 e8 (by omega) (by rw [e3]; exact hfz) ?_ ?_⟩
  · simp [splice]; omega
  · intro j v hj
    unfold splice at hj
    by_cases hjo : j < o
    · rw [List.append_assoc, List.getElem?_append_left (by simp; omega), List.getElem?_take_of_lt hjo] at hj
      obtain ⟨x, f1, f2, f3⟩ := hc j v hj
      exact ⟨x, by rw [e4 j (by omega)]; rw [cell?_cells hh, Nat.zero_add] at f1; exact f1, f2, f3⟩
    · by_cases hjl : j < o + l.length
      · have hto : (List.take o B.cells).length = o := by simp; omega
        rw [List.append_assoc, List.getElem?_append_right (by omega), hto, List.getElem?_append_left (by omega)] at hj
        obtain ⟨x, f1, f2⟩ := SV.isL_get hl _ v hj
        refine ⟨x, ?_, f2, h1 x (List.mem_of_getElem? f1)⟩
        have := e6 (j - o) (by omega)
        rw [show o + 0 + (j - o) = j by omega] at this
        rw [this]; exact f1
      · have hto : (List.take o B.cells ++ l).length = o + l.length := by simp; omega
        rw [List.getElem?_append_right (by omega), hto, List.getElem?_drop] at hj
        rw [show o + l.length + (j - (o + l.length)) = j by omega] at hj
        obtain ⟨x, f1, f2, f3⟩ := hc j v hj
        exact ⟨x, by rw [e5 j (by omega)]; rw [cell?_cells hh, Nat.zero_add] at f1; exact f1, f2, f3⟩

theorem store_ok (R : Rel C N ρ fr m n a w) {t : TypeId} {k : Nat} {o o' : Operand} {x y : Opd}
    (h1 : opdOk o x = true) (h2 : opdOk o' y = true) (h3 : sizeT C.P t = some k) (hk : exO T call fr m n K (.store k x y)) :
    ∃ w', (Instr.storeAt t (a.eval o) (a.eval o')).run C.P w = .ok () w' ∧ Out C ρ K undef w' := by
  have hv := ev_is R h1
  have hy := ev_is R h2
  simp only [exO] at hk
  split at hk
  · rename_i i off he
    rw [he] at hv
    obtain ⟨L, b, e1, e2, e3⟩ := by simpa only [SV.is] using hv
    obtain ⟨B, e, l, hB, hkd, hl, hlen, ho, hK⟩ := hk
    obtain ⟨f1, f2⟩ := cells?_is hl hy
    obtain ⟨hst, _⟩ := R.mem.cap (rd_mem hB) hkd e1 e2
    obtain ⟨w', g1, g2⟩ := splice_ok R.mem (rd_mem hB) hkd e1 e2 f1 f2 (o := off) (by omega) C.P
    refine ⟨w', ?_, ρ, .any, _, _, Env.le_refl _, hK, trivial, g2, R.n0⟩
    have hsz : (a.eval o').cells.size = k := by
      have := SV.isL_length f1
      simp at this; omega
    rw [e3]
    simp [Instr.storeAt, Instr.sureAddr, storeVar, run_sizeOf_of h3, hsz]
    rw [hst, Nat.zero_add]; exact g1
  · exact hk.elim

def cstsOk : List SV → List Value → Bool
  | [], [] => true
  | v :: l, x :: xs => cstOk v x && x.oneCell' && cstsOk l xs
  | _, _ => false
theorem cstsOk_is : ∀ {l : List SV} {xs : List Value}, cstsOk l xs = true → SV.isL ρ l xs ∧ ∀ y ∈ xs, y.oneCell' = true
  | [], [], _ => by simp [SV.isL]
  | v :: l, x :: xs, h => by
    simp only [cstsOk, Bool.and_eq_true] at h
    obtain ⟨⟨h1, h2⟩, h3⟩ := h
    obtain ⟨g1, g2⟩ := cstsOk_is h3
    refine ⟨by simp only [SV.isL]; exact ⟨x, xs, rfl, cstOk_is h1 ρ, g1⟩, fun y hy => ?_⟩
    rcases List.mem_cons.1 hy with rfl | hy
    · exact h2
    · exact g2 y hy
  | [], _ :: _, h => by simp [cstsOk] at h
  | _ :: _, [], h => by simp [cstsOk] at h

def zeroOk (P : Program) (t : TypeId) (z : List SV) : Bool :=
  match P.info? t with
  | some i => match i.zero with
    | some v => cstsOk z v.cells.toList
    | none => false
  | none => false

theorem zeroOk_run {P : Program} {t : TypeId} {z : List SV} (h : zeroOk P t z = true) :
    ∃ v, (zeroValue t).run P w = .ok v w ∧ SV.isL ρ z v.cells.toList ∧ ∀ y ∈ v.cells.toList, y.oneCell' = true := by
  unfold zeroOk at h
  cases hi : P.info? t with
  | none => simp [hi] at h
  | some i =>
    simp only [hi] at h
    cases hz : i.zero with
    | none => simp [hz] at h
    | some v =>
      simp only [hz] at h
      obtain ⟨g1, g2⟩ := cstsOk_is (ρ := ρ) h
      exact ⟨v, by simp [zeroValue, typeInfo, hi, hz], g1, g2⟩

theorem new_op (R : Rel C N ρ fr m n a w) {t : TypeId} {z : List SV} (h : zeroOk C.P t z = true) (hk : exO T call fr m n K (.new t z)) :
    ∃ y w', (Instr.alloc t true (.tuple #[])).run C.P w = .ok y w' ∧ Out C ρ K y w' := by
  simp only [exO] at hk
  obtain ⟨v, h1, h2, h3⟩ := zeroOk_run (ρ := ρ) (w := w) h
  refine ⟨.pointer (some ⟨w.heap.size, 0, none⟩), { w with heap := w.heap.push (.cells v.cells t) }, by simp [Instr.alloc, h1, newVar, newRow], out_new R h2 h3 (by exact ⟨rfl, rfl⟩) (by simp) hk ?_⟩
  simp only [SV.is]; exact ⟨_, _, set_self, rfl, rfl⟩

theorem box_op (R : Rel C N ρ fr m n a w) {t : TypeId} {o : Operand} {x : Opd} (h1 : opdOk o x = true) (hk : exO T call fr m n K (.box t x)) :
    ∃ y w', (Instr.box t (a.eval o)).run C.P w = .ok y w' ∧ Out C ρ K y w' := by
  have hv := ev_is R h1
  simp only [exO] at hk
  obtain ⟨l, hl, hK⟩ := hk
  obtain ⟨h2, h3⟩ := cells?_is hl hv
  refine ⟨.pointer (some ⟨w.heap.size, 0, none⟩), { w with heap := w.heap.push (.cells (a.eval o).cells t) }, by simp [Instr.box, newVar, newRow], out_new R h2 h3 (by exact ⟨rfl, rfl⟩) (by simp) hK ?_⟩
  simp only [SV.is]; exact ⟨_, _, set_self, rfl, rfl⟩

/-- the parts of an aggregate, laid into its zero cells -/
def partsOk (place : Nat → Option (Nat × Nat)) : List (Nat × Operand) → List (Nat × Nat × Opd) → Bool
  | [], [] => true
  | (i, o) :: r, (off, size, x) :: r' => (place i == some (off, size)) && opdOk o x && partsOk place r r'
  | _, _ => false

theorem app3 {α : Type} (A B D : List α) (j : Nat) : (A ++ B ++ D)[j]? =
    if j < A.length then A[j]? else if j < A.length + B.length then B[j - A.length]? else D[j - A.length - B.length]? := by
  by_cases h1 : j < A.length
  · rw [if_pos h1, List.append_assoc, List.getElem?_append_left h1]
  · rw [if_neg h1]
    by_cases h2 : j < A.length + B.length
    · rw [if_pos h2, List.append_assoc, List.getElem?_append_right (by omega), List.getElem?_append_left (by omega)]
    · rw [if_neg h2, List.getElem?_append_right (by simp; omega), List.length_append, Nat.sub_sub]

theorem foldl_set_get (vs : List Value) : ∀ (k : Nat) (cs : Array Value) (off : Nat), (off + k + vs.length ≤ cs.size) →
    ∃ cs', (vs.zipIdx k).foldl (fun cs (c, j) => cs.setIfInBounds (off + j) c) cs = cs' ∧ cs'.size = cs.size ∧
      cs'.toList = cs.toList.take (off + k) ++ vs ++ cs.toList.drop (off + k + vs.length) := by
  induction vs with
  | nil => intro k cs off _; exact ⟨cs, rfl, rfl, by simp⟩
  | cons v vs ih =>
    intro k cs off h
    simp only [List.length_cons] at h
    obtain ⟨cs', e1, e2, e3⟩ := ih (k + 1) (cs.setIfInBounds (off + k) v) off (by simp; omega)
    refine ⟨cs', by simpa [List.zipIdx_cons] using e1, by simpa using e2, ?_⟩
    rw [e3]
    have hlt : off + k < cs.toList.length := by simp; omega
    have e4 : (cs.setIfInBounds (off + k) v).toList = cs.toList.set (off + k) v := by simp
    rw [e4]
    apply List.ext_getElem?
    intro j
    have hl : (List.take (off + (k + 1)) (cs.toList.set (off + k) v)).length = off + k + 1 := by
      simp; simp at hlt; omega
    have hl2 : (List.take (off + k) cs.toList).length = off + k := by simp; simp at hlt; omega
    rw [app3, app3, hl, hl2]
    simp only [List.length_cons]
    by_cases h1 : j < off + k
    · rw [if_pos (by omega), if_pos h1, List.getElem?_take_of_lt (by omega), List.getElem?_take_of_lt h1, List.getElem?_set_ne (by omega)]
    · by_cases h2 : j = off + k
      · subst h2
        rw [if_pos (by omega), if_neg h1, if_pos (by omega), List.getElem?_take_of_lt (by omega), List.getElem?_set_self hlt]; simp
      · rw [if_neg (by omega), if_neg h1]
        by_cases h3 : j < off + k + 1 + vs.length
        · rw [if_pos h3, if_pos (by omega), show j - (off + k) = (j - (off + k + 1)) + 1 by omega, List.getElem?_cons_succ]
        · rw [if_neg h3, if_neg (by omega), List.getElem?_drop, List.getElem?_drop, List.getElem?_set_ne (by omega)]
          congr 1
          omega

theorem isL_splice {cs l : List SV} {xs ys : List Value} (h : SV.isL ρ cs xs) (h' : SV.isL ρ l ys) (o : Nat) :
    SV.isL ρ (splice cs o l) (xs.take o ++ ys ++ xs.drop (o + ys.length)) := by
  unfold splice
  rw [SV.isL_length h']
  exact isL_append (isL_append (isL_take o h) h') (isL_drop _ h)

theorem fill_ok (R : Rel C N ρ fr m n a w) (place : Nat → Option (Nat × Nat)) : ∀ (ps : List (Nat × Operand)) (qs : List (Nat × Nat × Opd)) (cs : List SV) (xs : Array Value) (F : List SV → Prop),
    partsOk place ps qs = true → SV.isL ρ cs xs.toList → (∀ y ∈ xs.toList, y.oneCell' = true) → fillS fr cs qs F →
    ∃ xs' cs', Instr.fill place xs (ps.map fun p => (p.1, a.eval p.2)) = some xs' ∧ F cs' ∧ SV.isL ρ cs' xs'.toList ∧ (∀ y ∈ xs'.toList, y.oneCell' = true)
  | [], [], cs, xs, F, _, h1, h2, hF => ⟨xs, cs, rfl, hF, h1, h2⟩
  | (i, o) :: ps, (off, size, x) :: qs, cs, xs, F, hp, h1, h2, hF => by
    simp only [partsOk, Bool.and_eq_true, beq_iff_eq] at hp
    obtain ⟨⟨p1, p2⟩, p3⟩ := hp
    simp only [fillS] at hF
    obtain ⟨l, f1, f2, f3, f4⟩ := hF
    obtain ⟨g1, g2⟩ := cells?_is f1 (ev_is R p2)
    have hlen := SV.isL_length g1
    have hlx := SV.isL_length h1
    simp only [Array.length_toList] at hlen hlx
    have hfold := foldl_set_get (a.eval o).cells.toList 0 xs off (by simp; omega)
    obtain ⟨ys, k1, k2, k3⟩ := hfold
    have hys : SV.isL ρ (splice cs off l) ys.toList := by
      rw [k3]; simpa using isL_splice h1 g1 off
    obtain ⟨xs', cs', r1, r2, r3, r4⟩ := fill_ok R place ps qs (splice cs off l) ys F p3 hys (fun y hy => by
      rw [k3] at hy
      rcases List.mem_append.1 hy with hy | hy
      · rcases List.mem_append.1 hy with hy | hy
        · exact h2 y (List.mem_of_mem_take hy)
        · exact g2 y hy
      · exact h2 y (List.mem_of_mem_drop hy)) f4
    refine ⟨xs', cs', ?_, r2, r3, r4⟩
    simp only [List.map_cons, Instr.fill, p1]
    rw [if_neg (by simp; omega)]
    rw [← Array.foldl_toList, Array.toList_zipIdx, k1]
    exact r1
  | [], _ :: _, _, _, _, hp, _, _, _ => by simp [partsOk] at hp
  | _ :: _, [], _, _, _, hp, _, _, _ => by simp [partsOk] at hp
end
end Go.Sx
