/- The engine, part J: append and copy. -/
import Derived.Test.YtflkcganpgjkkaaDoorEngI
namespace Go.Sx
open Go
set_option linter.unusedSimpArgs false
set_option linter.unusedVariables false

section
variable {C : Ctx} {N : Nat} {ρ : Env} {fr : Fr} {m : Mem} {n : Nat} {a : Act} {w : World} {K : Kt} {T : List (Nat × List SV)} {call : CallT}

/-- a new name for a block that is given up under its old one; or a block that is no block (the nil slice's) -/
theorem MemOk.name (R : MemOk C ρ m n w) (hn : C.n0 ≤ n) {m' : Mem} (hm : ∀ x ∈ m', x ∈ m) {B : Blk} {L : Loc} (hB : B.okAt ρ w L)
    (hap : ∀ b, L.blk = some b → ∀ j B' L', (j, B') ∈ m' → ρ j = some L' → L'.blk ≠ some b)
    (hwr : ∀ b, L.blk = some b → C.w0.heap.size ≤ b ∨ C.wr b) :
    MemOk C (ρ.set n L) ((n, B) :: m') (n + 1) w := by
  have hle : ρ.le (ρ.set n L) := Env.le_set (R.fresh _ (Nat.le_refl _))
  have hne : ∀ i B, (i, B) ∈ m' → i ≠ n := fun i B hi e => by
    obtain ⟨L', h1, _⟩ := R.blk i B (hm _ hi)
    rw [e, R.fresh _ (Nat.le_refl _)] at h1; cases h1
  have hset : ∀ i B, (i, B) ∈ m' → (ρ.set n L) i = ρ i := fun i B hi => by
    unfold Env.set; rw [if_neg (hne i B hi)]
  constructor
  · intro i B' hi
    rcases List.mem_cons.1 hi with hi | hi
    · cases hi
      exact ⟨L, set_self, hB.mono hle (fun _ _ => rfl) (Nat.le_refl _)⟩
    · obtain ⟨L', h1, h2⟩ := R.blk i B' (hm _ hi)
      exact ⟨L', by rw [hset i B' hi]; exact h1, h2.mono hle (fun _ _ => rfl) (Nat.le_refl _)⟩
  · intro i B1 j B2 L1 L2 b hi hj hij hown hL hL' hb
    rcases List.mem_cons.1 hi with hi | hi
    · cases hi
      rw [set_self] at hL; cases hL
      rcases List.mem_cons.1 hj with hj | hj
      · cases hj; exact (hij rfl).elim
      · rw [hset j B2 hj] at hL'; exact hap b hb j B2 L2 hj hL'
    · rw [hset i B1 hi] at hL
      rcases List.mem_cons.1 hj with hj | hj
      · cases hj
        rw [set_self] at hL'; cases hL'
        intro hb'; exact hap b hb' i B1 L1 hi hL hb
      · rw [hset j B2 hj] at hL'
        exact R.apart i B1 j B2 L1 L2 b (hm _ hi) (hm _ hj) hij hown hL hL' hb
  · intro i hi
    have := R.fresh i (by omega)
    unfold Env.set; rw [if_neg (by omega)]; exact this
  · intro i B1 L1 b hi hown hL hb
    rcases List.mem_cons.1 hi with hi | hi
    · cases hi
      rw [set_self] at hL; cases hL; exact hwr b hb
    · rw [hset i B1 hi] at hL
      exact R.wrt i B1 L1 b (hm _ hi) hown hL hb
  · exact R.size
  · exact R.frame
  · intro i hi
    unfold Env.set; rw [if_neg (by omega)]; exact R.keep i hi
  · exact R.side

def appTy (P : Program) (t u e : TypeId) (s bytes : Nat) : Bool :=
  (match P.underlying t with | some (.slice e') => e' == e | _ => false) &&
  (match P.underlying u with | some (.slice _) | some .string => true | _ => false) &&
  (match P.info? e with | some i => i.size == s && i.bytes == bytes && (i.zero.map (·.cells.size)) == some s | none => false) && bytes != 0 && s != 0

theorem app_grow (R : Rel C N ρ fr m n a w) {t u ty e : TypeId} {s bytes : Nat} (hty : appTy C.P t u e s bytes = true) {sv y : Value} {A : Option Addr} {len c k : Nat}
    (hsv : sv = .slice A len c) {old xs : List Value} {ol l : List SV} (hlen : (Builtin.lenOf y).run C.P w = .ok k w)
    (hy : ∀ w' : World, w'.heap = w.heap → (Builtin.firstCells s k y).run C.P w' = .ok xs.toArray w') (hx : SV.isL ρ l xs) (hx1 : ∀ v ∈ xs, v.oneCell' = true) (hxl : xs.length = k * s)
    (hold : ∀ w' : World, w'.heap = w.heap → (Builtin.firstCells s len sv).run C.P w' = .ok old.toArray w') (ho : SV.isL ρ ol old) (ho1 : ∀ v ∈ old, v.oneCell' = true) (hol : old.length = len * s)
    (hbig : (len + k) * bytes ≤ 2 ^ 40) (hb20 : bytes ≤ 2 ^ 20) (hgrow : ¬ (len + k ≤ c)) {m' : Mem} (hm : ∀ x ∈ m', x ∈ m)
    (hK : K (.slc n 0 s (len + k) none) ((n, ⟨.own e, ol ++ l⟩) :: m') (n + 1)) :
    ∃ z w', (Builtin.append_ #[t, u] ty #[sv, y]).run C.P w = .ok z w' ∧ Out C ρ K z w' := by
  unfold appTy at hty
  simp only [Bool.and_eq_true, bne_iff_ne, ne_eq] at hty
  obtain ⟨⟨⟨⟨t1, t2⟩, t3⟩, t4⟩, t5⟩ := hty
  have ht : C.P.underlying t = some (.slice e) := by
    cases hu : C.P.underlying t with
    | none => simp [hu] at t1
    | some d => cases d <;> simp [hu] at t1; subst t1; rfl
  have hu : (∃ q, C.P.underlying u = some (.slice q)) ∨ C.P.underlying u = some .string := by
    cases hu : C.P.underlying u with
    | none => simp [hu] at t2
    | some d => cases d <;> simp [hu] at t2 <;> simp
  cases hi : C.P.info? e with
  | none => simp [hi] at t3
  | some i =>
    simp [hi] at t3
    obtain ⟨⟨q1, q2⟩, q3⟩ := t3
    obtain ⟨zv, hz, hzs⟩ := q3
    have hsize : ∀ w : World, (sizeOf e).run C.P w = .ok s w := fun w => run_sizeOf_of (by simp [hi, q1]) w
    have hti : ∀ w : World, (typeInfo e).run C.P w = .ok i w := fun w => by simp [typeInfo, hi]
    have hzr : ∀ w : World, (zeroValue e).run C.P w = .ok zv w := fun w => by simp [zeroValue, typeInfo, hi, hz]
    have hneed : len + k ≤ 2 ^ 40 := Nat.le_trans (Nat.le_mul_of_pos_right _ (by omega)) hbig
    have hfit : ¬ (Builtin.nextslicecap (len + k) c * bytes > 2 ^ 48) := by
      have := growslice_fits (need := len + k) (old := c) (bytes := bytes) (by omega) (by omega)
      omega
    obtain ⟨cap, hcapd⟩ : ∃ cap, cap = (Question.appendCap (len + k) c e).cut (w.tape w.drawn (.appendCap (len + k) c e)) := ⟨_, rfl⟩
    have hcap : len + k ≤ cap := by simp [hcapd, Question.cut]
    obtain ⟨w1, hw1⟩ : ∃ w1 : World, w1 = { w with drawn := w.drawn + 1 } := ⟨_, rfl⟩
    have hcell : w1.heap = w.heap := by rw [hw1]
    have hch : (choose (.appendCap (len + k) c e)).run C.P w = .ok cap w1 := by
      rw [hcapd, hw1]; simp only [run_choose, Question.forced, Bool.false_eq_true, if_false]
    refine ⟨.slice (some ⟨w.heap.size, 0, none⟩) (len + k) cap, { w1 with heap := w.heap.push (.cells (old.toArray ++ xs.toArray ++ Builtin.zeroCells zv.cells (cap - (len + k))) e) }, ?_, ?_⟩
    · have hb0 : ¬ (i.bytes = 0) := by rw [q2]; exact t4
      rcases hu with ⟨q, hu⟩ | hu
      all_goals
        unfold Builtin.append_
        simp only [List.getElem?_toArray, List.getElem?_cons_zero, List.getElem?_cons_succ, Sem.run_bind, run_und ht, Result.andThen_ok, hsv, hsize, run_und hu, Sem.run_pure, Sem.run_ite,
          Bool.false_eq_true, if_false, hlen, hgrow, false_or, hti, hb0, and_false, q2, hfit, hch, run_askRoom]
        rw [if_neg (fun h => t4 h.2), ← hsv, hold w1 hcell]
        simp only [Result.andThen_ok, Bool.not_false, if_true, hy w1 hcell, hzr, newRow, Sem.run_bind, run_newObj, Sem.run_pure, hcell]
    · have h1 := R.mem.heap_eq (w' := w1) hcell (by rw [hw1]; exact ⟨rfl, rfl⟩)
      have hsz : (old.toArray ++ xs.toArray).size = (len + k) * s := by simp [hol, hxl, Nat.add_mul]
      have hal := h1.alloc R.n0 (old.toArray ++ xs.toArray ++ Builtin.zeroCells zv.cells (cap - (len + k))) e (0, 0) (ol ++ l)
        (w' := { w1 with heap := w.heap.push (.cells (old.toArray ++ xs.toArray ++ Builtin.zeroCells zv.cells (cap - (len + k))) e) }) (by rw [hcell]) ⟨rfl, rfl⟩ (.inl (Nat.le_refl _))
        (by simp [← SV.isL_length ho, ← SV.isL_length hx]) (fun j v hj => by
          have hall := isL_append ho hx
          obtain ⟨x, r1, r2⟩ := SV.isL_get hall j v hj
          have hjl : j < (old ++ xs).length := by
            rcases Nat.lt_or_ge j (old ++ xs).length with h | h
            · exact h
            · rw [List.getElem?_eq_none h] at r1; cases r1
          refine ⟨x, ?_, r2, ?_⟩
          · rw [Array.getElem?_append_left (by simpa using hjl)]
            simpa using r1
          · rcases List.mem_append.1 (List.mem_of_getElem? r1) with h | h
            · exact ho1 x h
            · exact hx1 x h)
      have hsub := hal.sub (mem' := (n, ⟨.own e, ol ++ l⟩) :: m') (nxt' := n + 1) (fun x hx => by
        rcases List.mem_cons.1 hx with h | h
        · exact h ▸ List.mem_cons_self
        · exact List.mem_cons_of_mem _ (hm x h)) (Nat.le_refl _)
      refine ⟨_, _, _, _, Env.le_set (R.mem.fresh _ (Nat.le_refl _)), hK, ?_, hsub, by have := R.n0; omega⟩
      simp only [SV.is]
      refine ⟨_, some ⟨w.heap.size, 0, none⟩, by rw [hcell]; exact set_self, ?_, .inl rfl⟩
      congr 1
      simp only [Option.getD_none, Nat.sub_zero]
      have hzl : (old.toArray ++ xs.toArray ++ Builtin.zeroCells zv.cells (cap - (len + k))).size = cap * s := by
        simp only [Array.size_append, List.size_toArray, hol, hxl, Builtin.zeroCells, Array.size_map, Array.size_range, hzs]
        rw [← Nat.add_mul, ← Nat.add_mul]; congr 1; omega
      rw [hzl, Nat.mul_div_cancel _ (by omega)]

theorem app_op (R : Rel C N ρ fr m n a w) {t u ty e : TypeId} {s bytes : Nat} {o o' : Operand} {x y : Opd} (h1 : opdOk o x = true) (h2 : opdOk o' y = true)
    (hty : appTy C.P t u e s bytes = true) (hk : exO T call fr m n K (.app e s bytes x y)) :
    ∃ z w', (Builtin.append_ #[t, u] ty #[a.eval o, a.eval o']).run C.P w = .ok z w' ∧ Out C ρ K z w' := by
  have hv := ev_is R h1
  have hv' := ev_is R h2
  simp only [exO] at hk
  obtain ⟨k, l, xs, hk, hx, hx1, hxl, hlen, hfc⟩ := srcOf_ok R.mem hk hv' C.P
  have hy : ∀ w' : World, w'.heap = w.heap → (Builtin.firstCells s k (a.eval o')).run C.P w' = .ok xs.toArray w' := fun w' hw' => by
    rw [hfc w' hw' k (Nat.le_refl _), List.take_of_length_le (by omega)]
  have hty0 := hty
  unfold appTy at hty
  simp only [Bool.and_eq_true, bne_iff_ne, ne_eq] at hty
  obtain ⟨⟨⟨⟨t1, t2⟩, t3⟩, t4⟩, t5⟩ := hty
  have ht : C.P.underlying t = some (.slice e) := by
    cases hu : C.P.underlying t with
    | none => simp [hu] at t1
    | some d => cases d <;> simp [hu] at t1; subst t1; rfl
  have hu : (∃ q, C.P.underlying u = some (.slice q)) ∨ C.P.underlying u = some .string := by
    cases hu : C.P.underlying u with
    | none => simp [hu] at t2
    | some d => cases d <;> simp [hu] at t2 <;> simp
  have hsize : ∀ w : World, (sizeOf e).run C.P w = .ok s w := fun w => by
    cases hi : C.P.info? e with
    | none => simp [hi] at t3
    | some i => simp [hi] at t3; exact run_sizeOf_of (by simp [hi, t3.1.1]) w
  split at hk
  · rename_i i off s' len cap he
    rw [he] at hv
    obtain ⟨L, A, e1, e2, e3⟩ := by simpa only [SV.is] using hv
    obtain ⟨rfl, rfl, rfl, hbig, hb20, B, hB, hkd, hl, hK⟩ := hk
    generalize hc : (none : Option Nat).getD ((L.cap - 0) / s') = c at e2 e3
    simp only [Option.getD_none, Nat.sub_zero] at hc
    by_cases hin : len + k ≤ c
    · -- in place
      have hB' := rd_mem hB
      cases hb : L.blk with
      | none =>
        obtain ⟨L', f1, f2⟩ := R.mem.blk i B hB'
        rw [e1] at f1; cases f1
        unfold Blk.okAt at f2; rw [hb] at f2
        have hc0 : c = 0 := by rw [← hc, f2.2]; simp
        have hlen0 : len = 0 := by omega
        have hk0 : k = 0 := by omega
        subst hlen0; subst hk0
        have hx0 : xs = [] := by simpa using hxl
        have hA : A = none := by
          rcases e3 with e3 | e3
          · rw [e3, hb]; rfl
          · exact e3.2.2.2 hb
        have hl0 : l = [] := by have := SV.isL_length hx; rw [hx0] at this; simpa using this.symm
        refine ⟨.slice none 0 c, w, ?_, ?_⟩
        · rcases hu with ⟨q, hu⟩ | hu
          all_goals
            simp [Builtin.append_, run_und ht, run_und hu, e2, hsize, hlen, hA, hy w rfl]
        · have hm := R.mem.name R.n0 (m' := rm m i) (fun x hx => (mem_rm hx).1) (B := ⟨.own e, []⟩) (L := L) (by unfold Blk.okAt; rw [hb]; exact ⟨rfl, f2.2⟩)
            (fun b hb' => by rw [hb] at hb'; cases hb') (fun b hb' => by rw [hb] at hb'; cases hb')
          refine ⟨_, _, _, _, Env.le_set (R.mem.fresh _ (Nat.le_refl _)), hK, ?_, by simpa [hl0] using hm, by have := R.n0; omega⟩
          simp only [SV.is]
          exact ⟨L, none, set_self, by simp [hc], .inl (by rw [hb]; rfl)⟩
      | some b =>
        obtain ⟨hst, hcp, cs, fz, hh, hsz, hfz⟩ := R.mem.cap hB' hkd e1 hb
        have hcs : c * s' ≤ L.cap := by rw [← hc]; exact Nat.div_mul_le_self _ _
        have hle : (len + k) * s' ≤ c * s' := Nat.mul_le_mul_right _ hin
        rw [Nat.add_mul] at hle
        obtain ⟨w', cs', r1, r2, r3, r4, r5, r6, r7, r8, r9⟩ := storeCells_run (P := C.P) (b := b) (o := len * s') xs 0 w cs hh (by omega) hfz hx1
        have hcells := blk_cells R.mem hB e1 hb
        rw [hst] at hcells
        have hlx := SV.isL_length hx
        have hwr := R.mem.write hB' hkd e1 hb cs' fz (B.cells.take (len * s') ++ l) r2 r7 r9 r8 (by omega) (by rw [r3]; exact hfz) (by simp; omega) (fun j v hj => by
          by_cases hjl : j < len * s'
          · rw [List.getElem?_append_left (by simp; omega), List.getElem?_take_of_lt hjl] at hj
            obtain ⟨z, g1, g2, g3⟩ := hcells j v hj
            exact ⟨z, by rw [r4 j (by omega)]; rw [cell?_cells hh, Nat.zero_add] at g1; exact g1, g2, g3⟩
          · have hto : (List.take (len * s') B.cells).length = len * s' := by simp; omega
            rw [List.getElem?_append_right (by omega), hto] at hj
            obtain ⟨z, g1, g2⟩ := SV.isL_get hx _ v hj
            refine ⟨z, ?_, g2, hx1 z (List.mem_of_getElem? g1)⟩
            have hjx : j - len * s' < xs.length := by
              rcases Nat.lt_or_ge (j - len * s') xs.length with h | h
              · exact h
              · rw [List.getElem?_eq_none h] at g1; cases g1
            have := r6 (j - len * s') hjx
            rw [show len * s' + 0 + (j - len * s') = j by omega] at this
            rw [this]; exact g1)
        obtain ⟨L', f1, f2⟩ := hwr.blk i ⟨.own e, B.cells.take (len * s') ++ l⟩ (by unfold upd; exact List.mem_map.2 ⟨(i, B), hB', by simp⟩)
        rw [e1] at f1; cases f1
        have hsub : ∀ x ∈ rm m i, x ∈ upd m i ⟨.own e, B.cells.take (len * s') ++ l⟩ := fun x hx => by
          obtain ⟨g1, g2⟩ := mem_rm hx
          unfold upd; exact List.mem_map.2 ⟨x, g1, by simp [g2]⟩
        have hm := hwr.name R.n0 (m' := rm m i) hsub f2
          (fun b' hb' j B' L' hj hL' => R.mem.apart i B j B' L L' b' hB' (mem_rm hj).1 (Ne.symm (mem_rm hj).2) ⟨e, hkd⟩ e1 hL' hb')
          (fun b' hb' => R.mem.wrt i B L b' hB' ⟨e, hkd⟩ e1 hb')
        refine ⟨.slice A (len + k) c, w', ?_, _, _, _, _, Env.le_set (R.mem.fresh _ (Nat.le_refl _)), hK, ?_, hm, by have := R.n0; omega⟩
        · have hstore : ∀ A', A = some A' → (storeCells (A'.add (len * s')) xs).run C.P w = .ok () w' := by
            intro A' hA'
            rcases e3 with e3 | e3
            · rw [hA', hb] at e3
              simp only [Option.map_some, Option.some.injEq] at e3
              rw [e3, Addr.add_mk, hst]; simpa using r1
            · have hk0 : k = 0 := by omega
              have hx0 : xs = [] := by rw [hk0] at hxl; simpa using hxl
              rw [hx0] at r1 ⊢
              have : w' = w := by
                have := r1; simp [storeCells] at this; exact this.symm
              rw [this]; rfl
          have hnone : A = none → w' = w := by
            intro hA
            rcases e3 with e3 | e3
            · rw [hA, hb] at e3; cases e3
            · rw [e3.2.2.1 hA] at hb; cases hb
          rcases hu with ⟨q, hu⟩ | hu
          all_goals
            cases A with
            | none =>
              rw [hnone rfl]
              simp [Builtin.append_, run_und ht, run_und hu, e2, hsize, hlen, hin, hy w rfl]
            | some A' =>
              simp [Builtin.append_, run_und ht, run_und hu, e2, hsize, hlen, hin, hy w rfl, hstore A' rfl]
        · simp only [SV.is]
          refine ⟨L, A, set_self, by simp [hc], ?_⟩
          rcases e3 with e3 | e3
          · exact .inl e3
          · refine .inr ⟨by omega, by simp [hc]; omega, e3.2.2⟩
    · -- a new array
      have hB' := rd_mem hB
      have hsl : srcSl m s' (.slc i 0 s' len none) (fun k l => k = len ∧ l = B.cells.take (len * s')) := by
        simp only [srcSl]
        refine ⟨trivial, B, hB, by omega, ?_⟩
        simp
      obtain ⟨k2, ol, old, ⟨q1, q2⟩, ho, ho1, hol, _, hofc, _⟩ := srcSl_ok R.mem hsl hv C.P
      subst q1; subst q2
      rw [e2]
      refine app_grow R hty0 rfl hlen hy hx hx1 hxl (fun w' hw' => ?_) ho ho1 hol hbig hb20 hin (fun x hx => (mem_rm hx).1) hK
      have := hofc w' hw' k2 (Nat.le_refl _)
      rw [e2] at this
      rw [this, List.take_of_length_le (by omega)]
  · rename_i he
    rw [he] at hv
    have e2 := by simpa only [SV.is] using hv
    obtain ⟨hbig, hb20, hK⟩ := hk
    by_cases hk0 : k = 0
    · subst hk0
      have hx0 : xs = [] := by simpa using hxl
      have hl0 : l = [] := by have := SV.isL_length hx; rw [hx0] at this; simpa using this.symm
      refine ⟨.slice none 0 0, w, ?_, ?_⟩
      · rcases hu with ⟨q, hu⟩ | hu
        all_goals
          simp [Builtin.append_, run_und ht, run_und hu, e2, hsize, hlen, hy w rfl]
      · have hm := R.mem.name R.n0 (m' := m) (fun x hx => hx) (B := ⟨.own e, []⟩) (L := ⟨none, 0, 0⟩) (by unfold Blk.okAt; exact ⟨rfl, rfl⟩)
          (fun b hb' => by cases hb') (fun b hb' => by cases hb')
        refine ⟨_, _, _, _, Env.le_set (R.mem.fresh _ (Nat.le_refl _)), hK, ?_, by simpa [hl0] using hm, by have := R.n0; omega⟩
        simp only [SV.is]
        exact ⟨_, none, set_self, by simp, .inl rfl⟩
    · rw [e2]
      exact app_grow R hty0 rfl hlen hy hx hx1 hxl (fun w' hw' => by simp [Builtin.firstCells]) (old := []) (ol := []) (by simp [SV.isL]) (by simp) (by simp) (by simpa using hbig) hb20 (by omega) (fun x hx => hx) (by simpa using hK)
  · exact hk.elim

theorem copy_op (R : Rel C N ρ fr m n a w) {t u ty e : TypeId} {s : Nat} {o o' : Operand} {x y : Opd} (h1 : opdOk o x = true) (h2 : opdOk o' y = true)
    (ht : C.P.underlying t = some (.slice e)) (hs : sizeT C.P e = some s) (hs0 : s ≠ 0) (hk : exO T call fr m n K (.copy s x y)) :
    ∃ z w', (Builtin.copy_ #[t, u] ty #[a.eval o, a.eval o']).run C.P w = .ok z w' ∧ Out C ρ K z w' := by
  have hv := ev_is R h1
  have hv' := ev_is R h2
  simp only [exO] at hk
  obtain ⟨k, l, xs, hk, hx, hx1, hxl, hlen, hfc⟩ := srcOf_ok R.mem hk hv' C.P
  have hsize : ∀ w : World, (sizeOf e).run C.P w = .ok s w := fun w => run_sizeOf_of hs w
  split at hk
  · rename_i i off s' len cap he
    rw [he] at hv
    obtain ⟨L, A, e1, e2, e3⟩ := by simpa only [SV.is] using hv
    obtain ⟨rfl, B, e', hB, hkd, hl, hK⟩ := hk
    have hB' := rd_mem hB
    have hmin : min k len * s' ≤ k * s' := Nat.mul_le_mul_right _ (Nat.min_le_left _ _)
    have hmin' : min k len * s' ≤ len * s' := Nat.mul_le_mul_right _ (Nat.min_le_right _ _)
    have hlx := SV.isL_length hx
    have hlt : (l.take (min k len * s')).length = min k len * s' := by simp; omega
    have hx' := isL_take (min k len * s') hx
    cases hb : L.blk with
    | none =>
      obtain ⟨L', f1, f2⟩ := R.mem.blk i B hB'
      rw [e1] at f1; cases f1
      unfold Blk.okAt at f2; rw [hb] at f2
      have hlen0 : len * s' = 0 := by rw [f2.1] at hl; simp at hl; omega
      have hlen00 : len = 0 := by
        rcases Nat.mul_eq_zero.1 hlen0 with h | h
        · exact h
        · exact (hs0 h).elim
      subst hlen00
      have hA : A = none := by
        rcases e3 with e3 | e3
        · rw [e3, hb]; rfl
        · exact e3.2.2.2 hb
      have hc := hfc w rfl 0 (Nat.zero_le _)
      refine ⟨.int .i64 (min k 0 : Nat), w, ?_, ρ, _, _, _, Env.le_refl _, hK, by simp only [SV.is], ?_, R.n0⟩
      · simp at hc
        simp [Builtin.copy_, run_und ht, e2, hlen, hsize, hA, goInt, hc]
      · have hupd : upd m i ⟨.own e', splice B.cells off (List.take (min k 0 * s') l)⟩ = m.map (fun x => if x.1 = i then (i, ⟨.own e', []⟩) else x) := by
          unfold upd; simp [splice, f2.1]
        rw [hupd]
        have hnone : ∀ j B', (j, B') ∈ m.map (fun x => if x.1 = i then (i, (⟨.own e', []⟩ : Blk)) else x) → (j = i ∧ B' = ⟨.own e', []⟩) ∨ (j ≠ i ∧ (j, B') ∈ m) := by
          intro j B' hj
          obtain ⟨y, hy, hye⟩ := List.mem_map.1 hj
          split at hye
          · cases hye; exact .inl ⟨rfl, rfl⟩
          · rename_i hne; subst hye; exact .inr ⟨hne, hy⟩
        constructor
        · intro j B' hj
          rcases hnone j B' hj with ⟨rfl, rfl⟩ | ⟨_, hj⟩
          · exact ⟨L, e1, by unfold Blk.okAt; rw [hb]; exact ⟨rfl, f2.2⟩⟩
          · exact R.mem.blk j B' hj
        · intro j B' q B'' L1 L2 b hj hq hjq hown g1 g2 g3
          rcases hnone j B' hj with ⟨rfl, rfl⟩ | ⟨hji, hj⟩
          · rw [e1] at g1; cases g1; rw [hb] at g3; cases g3
          · rcases hnone q B'' hq with ⟨rfl, rfl⟩ | ⟨hqi, hq⟩
            · rw [e1] at g2; cases g2; rw [hb]; simp
            · exact R.mem.apart j B' q B'' L1 L2 b hj hq hjq hown g1 g2 g3
        · exact R.mem.fresh
        · intro j B' L1 b hj hown g1 g2
          rcases hnone j B' hj with ⟨rfl, rfl⟩ | ⟨hji, hj⟩
          · rw [e1] at g1; cases g1; rw [hb] at g2; cases g2
          · exact R.mem.wrt j B' L1 b hj hown g1 g2
        · exact R.mem.size
        · exact R.mem.frame
        · exact R.mem.keep
        · exact R.mem.side
    | some b =>
      have hst := (R.mem.cap hB' hkd e1 hb).1
      obtain ⟨w', r1, r2⟩ := splice_ok R.mem hB' hkd e1 hb hx' (fun y hy => hx1 y (List.mem_of_mem_take hy)) (o := off) (by rw [hlt]; omega) C.P
      have hc := hfc w rfl (min k len) (Nat.min_le_left _ _)
      refine ⟨.int .i64 (min k len : Nat), w', ?_, ρ, _, _, _, Env.le_refl _, hK, by simp only [SV.is], r2, R.n0⟩
      have hstore : ∀ A', A = some A' → (storeCells A' (xs.take (min k len * s'))).run C.P w = .ok () w' := by
        intro A' hA'
        rcases e3 with e3 | e3
        · rw [hA', hb] at e3
          simp only [Option.map_some, Option.some.injEq] at e3
          rw [e3, hst, Nat.zero_add]; exact r1
        · have : len = 0 := e3.1
          subst this
          simp only [Nat.min_zero, Nat.zero_mul, List.take_zero] at r1 ⊢
          have : w' = w := by simp [storeCells] at r1; exact r1.symm
          rw [this]; rfl
      cases A with
      | none =>
        rcases e3 with e3 | e3
        · rw [hb] at e3; cases e3
        · rw [e3.2.2.1 rfl] at hb; cases hb
      | some A' =>
        simp only [Builtin.copy_, List.getElem?_toArray, List.getElem?_cons_zero, List.getElem?_cons_succ, Sem.run_bind, run_und ht, Result.andThen_ok, e2, hlen, hsize, Sem.run_pure, goInt]
        rw [show Nat.min k len = min k len from rfl, hc]
        simp only [Result.andThen_ok, List.toList_toArray, hstore A' rfl]
  · exact hk.elim
end
end Go.Sx
