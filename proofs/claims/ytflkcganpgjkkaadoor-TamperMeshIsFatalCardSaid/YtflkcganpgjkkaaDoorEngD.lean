/- The engine, part D: each operation of the model does what the symbolic operation says (first half). -/
import Derived.Test.YtflkcganpgjkkaaDoorEngC
namespace Go.Sx
open Go
set_option linter.unusedSimpArgs false
set_option linter.unusedVariables false

structure CtxOk (C : Ctx) : Prop where
  tab : TabOk C.T C.w0
  nwr : ∀ g cs, (g, cs) ∈ C.T → ¬ C.wr g

structure Rel (C : Ctx) (N : Nat) (ρ : Env) (fr : Fr) (m : Mem) (n : Nat) (a : Act) (w : World) : Prop where
  fr : ∀ d v, (d, v) ∈ fr → ∃ x, a.tmps[d]? = some x ∧ v.is ρ x
  mem : MemOk C ρ m n w
  defers : a.defers = []
  size : a.tmps.size = N
  n0 : C.n0 ≤ n

def Out (C : Ctx) (ρ : Env) (K : Kt) (x : Value) (w : World) : Prop :=
  ∃ ρ' v m n, ρ.le ρ' ∧ K v m n ∧ v.is ρ' x ∧ MemOk C ρ' m n w ∧ C.n0 ≤ n

def OpPost (C : Ctx) (ρ : Env) (K : Kt) : Result Next → Prop
  | .ok (.value x) w => Out C ρ K x w
  | .ok .skip w => Out C ρ K undef w
  | .ok (.enter f args) w => Calls C.P f args w fun e w' => ∃ x, e = .returned x ∧ Out C ρ K x w'
  | _ => False

theorem get_mem {fr : Fr} {d : Nat} : get fr d = .any ∨ (d, get fr d) ∈ fr := by
  induction fr with
  | nil => exact .inl rfl
  | cons y r ih =>
    obtain ⟨e, v⟩ := y
    unfold get
    split
    · rename_i h; subst h; exact .inr List.mem_cons_self
    · exact ih.imp id (List.mem_cons_of_mem _)

/-- constants -/
def cstOk : SV → Value → Bool
  | .int k n, .int k' n' => k == k' && n == n'
  | .bool b, .bool b' => b == b'
  | .str s, .string t => s == t.data.toList
  | .val (.slice none 0 0), .slice none 0 0 => true
  | .val (.pointer none), .pointer none => true
  | .val .nilFunc, .nilFunc => true
  | .val .nilIface, .nilIface => true
  | .val (.map none), .map none => true
  | _, _ => false

theorem cstOk_is {v : SV} {x : Value} (h : cstOk v x = true) (ρ : Env) : v.is ρ x := by
  unfold cstOk at h
  split at h
  · simp at h; obtain ⟨rfl, rfl⟩ := h; simp [SV.is]
  · simp at h; subst h; simp [SV.is]
  · rename_i s t; simp at h; subst h; simp [SV.is]
  all_goals first | (simp [SV.is]; done) | cases h

def opdOk : Operand → Opd → Bool
  | .tmp t, .t n => t == n
  | .const x, .c v => cstOk v x
  | .global g, .g n => g == n
  | .func f, .f g => f == g
  | _, _ => false

section
variable {C : Ctx} {N : Nat} {ρ : Env} {fr : Fr} {m : Mem} {n : Nat} {a : Act} {w : World} {K : Kt}

theorem ev_is (R : Rel C N ρ fr m n a w) {o : Operand} {x : Opd} (h : opdOk o x = true) : (x.ev fr).is ρ (a.eval o) := by
  cases o <;> cases x <;> simp only [opdOk] at h
  case tmp.t t d =>
    simp at h; subst h
    simp only [Opd.ev, Act.eval]
    rcases get_mem (fr := fr) (d := t) with e | e
    · rw [e]; trivial
    · obtain ⟨x, h1, h2⟩ := R.fr _ _ e
      have e2 : a.tmps.getD t undef = x := by rw [Array.getD_eq_getD_getElem?, h1]; rfl
      rw [e2]; exact h2
  case const.c x v => exact cstOk_is h ρ
  case global.g => simp at h; subst h; simp [Opd.ev, Act.eval, SV.is]
  case func.f => simp at h; subst h; simp [Opd.ev, Act.eval, SV.is, SV.isL]
  all_goals exact Bool.noConfusion h

theorem out_pure (R : Rel C N ρ fr m n a w) {v : SV} {x : Value} (hK : K v m n) (hv : v.is ρ x) : Out C ρ K x w :=
  ⟨ρ, v, m, n, Env.le_refl _, hK, hv, R.mem, R.n0⟩

theorem Addr.add_mk (b o j : Nat) : (⟨b, o, none⟩ : Addr).add j = ⟨b, o + j, none⟩ := by
  unfold Addr.add; split
  · rename_i h; subst h; rfl
  · rfl

/-- what a block of the description says of the cells of the world -/
theorem blk_cells (R : MemOk C ρ m n w) {i : Nat} {B : Blk} (h : rd m i = some B) {L : Loc} (hL : ρ i = some L) {b : Nat} (hb : L.blk = some b) :
    B.cellsOk ρ w b L.st := by
  obtain ⟨L', h1, h2⟩ := R.blk i B (rd_mem h)
  rw [hL] at h1; cases h1
  unfold Blk.okAt at h2; rw [hb] at h2; exact h2.2.1

theorem blk_some (R : MemOk C ρ m n w) {i : Nat} {B : Blk} (h : rd m i = some B) {o : Nat} (ho : o < B.cells.length) :
    ∃ L b, ρ i = some L ∧ L.blk = some b := by
  obtain ⟨L, h1, h2⟩ := R.blk i B (rd_mem h)
  cases hb : L.blk with
  | some b => exact ⟨L, b, h1, hb⟩
  | none => unfold Blk.okAt at h2; rw [hb] at h2; rw [h2.1] at ho; simp at ho

def aggOf (P : Program) (t : TypeId) : Option (Option Nat) :=
  match P.underlying t with
  | some (.struct _) | some (.array _ _) => (P.info? t).map fun i => some i.size
  | some _ => some none
  | none => none

theorem run_isAgg {P : Program} {t : TypeId} {g : Option Nat} (h : aggOf P t = some g) (w : World) : (isAgg t).run P w = .ok g.isSome w := by
  unfold aggOf at h
  unfold isAgg underlying
  cases hu : P.underlying t with
  | none => simp [hu] at h
  | some d =>
    cases d <;> simp [hu] at h ⊢ <;> first | (subst h; rfl) | (obtain ⟨i, _, rfl⟩ := h; rfl)

theorem run_sizeOf_of {P : Program} {t : TypeId} {k : Nat} (h : (P.info? t).map (·.size) = some k) (w : World) : (sizeOf t).run P w = .ok k w := by
  unfold sizeOf typeInfo
  cases hi : P.info? t with
  | none => simp [hi] at h
  | some i => simp [hi] at h ⊢; exact h

theorem aggOf_size {P : Program} {t : TypeId} {k : Nat} (h : aggOf P t = some (some k)) : (P.info? t).map (·.size) = some k := by
  unfold aggOf at h
  cases hu : P.underlying t with
  | none => simp [hu] at h
  | some d => cases d <;> simp [hu] at h <;> (obtain ⟨i, hi, rfl⟩ := h; simp [hi])

/-- cells of a block, or of a table, as a list of values of the world -/
theorem cells_list {cells : List SV} {b st : Nat} (h : ∀ (j : Nat) v, cells[j]? = some v → ∃ x, w.cell? ⟨b, st + j, none⟩ = some x ∧ v.is ρ x ∧ x.oneCell' = true)
    (o k : Nat) (hk : o + k ≤ cells.length) :
    ∃ xs : List Value, xs.length = k ∧ SV.isL ρ ((cells.drop o).take k) xs ∧ (∀ y ∈ xs, y.oneCell' = true) ∧ (∀ (j : Nat) v, xs[j]? = some v → w.cell? ⟨b, st + o + j, none⟩ = some v) := by
  induction k generalizing o with
  | zero => exact ⟨[], rfl, by simp [SV.isL], by simp, by simp⟩
  | succ k ih =>
    obtain ⟨xs, h1, h2, h3, h4⟩ := ih (o + 1) (by omega)
    have ho : o < cells.length := by omega
    obtain ⟨x, e1, e2, e3⟩ := h o cells[o] (List.getElem?_eq_getElem ho)
    refine ⟨x :: xs, by simp [h1], ?_, ?_, ?_⟩
    · rw [List.drop_eq_getElem_cons ho, List.take_succ_cons]
      simp only [SV.isL]
      exact ⟨x, xs, rfl, e2, h2⟩
    · intro y hy
      rcases List.mem_cons.1 hy with rfl | hy
      · exact e3
      · exact h3 y hy
    · intro j v hj
      cases j with
      | zero => simp at hj; subst hj; simpa using e1
      | succ j =>
        have := h4 j v (by simpa using hj)
        rw [show st + o + (j + 1) = st + (o + 1) + j by omega]; exact this

theorem run_loadVar_cell {P : Program} {t : TypeId} (h : aggOf P t = some none) {A : Addr} {x : Value} (hx : w.cell? A = some x) :
    (loadVar t A).run P w = .ok x w := by
  unfold loadVar; simp [run_isAgg h, hx]

theorem run_loadVar_cells {P : Program} {t : TypeId} {k : Nat} (h : aggOf P t = some (some k)) {A : Addr} {xs : List Value} (hk : xs.length = k)
    (hx : ∀ (j : Nat) v, xs[j]? = some v → w.cell? (A.add j) = some v) : (loadVar t A).run P w = .ok (.agg xs.toArray) w := by
  unfold loadVar; simp [run_isAgg h, run_sizeOf_of (aggOf_size h)]
  rw [← hk, run_loadCells_list (P := P) w A xs hx]; rfl

theorem tab_cells (X : CtxOk C) (R : MemOk C ρ m n w) {g : Nat} {cs : List SV} (h : (g, cs) ∈ C.T) :
    ∀ (j : Nat) v, cs[j]? = some v → ∃ x, w.cell? ⟨g, 0 + j, none⟩ = some x ∧ v.is ρ x ∧ x.oneCell' = true := by
  intro j v hj
  obtain ⟨h1, h2⟩ := X.tab g cs h
  obtain ⟨x, e1, e2, e3⟩ := h2 j v hj
  refine ⟨x, ?_, SV.is_mono (fun i L h => by cases h) v x e2, e3⟩
  rw [Nat.zero_add, cell?_of_heap (R.frame g h1 (X.nwr g cs h))]; exact e1

theorem load_ok (X : CtxOk C) (R : Rel C N ρ fr m n a w) {t : TypeId} {g : Option Nat} {o : Operand} {x : Opd}
    (h1 : opdOk o x = true) (h2 : aggOf C.P t = some g) {T call} (hT : T = C.T) (hk : exO T call fr m n K (.load g x)) :
    ∃ y, (Instr.loadAt t (a.eval o)).run C.P w = .ok y w ∧ Out C ρ K y w := by
  have hv := ev_is R h1
  subst hT
  simp only [exO] at hk
  split at hk
  · rename_i i off he
    rw [he] at hv
    obtain ⟨L, b, e1, e2, e3⟩ := by simpa only [SV.is] using hv
    obtain ⟨B, hB, hk⟩ := hk
    have hc := blk_cells R.mem hB e1 e2
    rw [e3]
    cases g with
    | none =>
      obtain ⟨v, hv', hK⟩ := hk
      obtain ⟨y, f1, f2, f3⟩ := hc off v hv'
      exact ⟨y, by simp [Instr.loadAt, Instr.sureAddr, run_loadVar_cell h2 f1], out_pure R hK f2⟩
    | some k =>
      obtain ⟨hlen, hK⟩ := hk
      obtain ⟨xs, f1, f2, f3, f4⟩ := cells_list hc off k hlen
      refine ⟨.agg xs.toArray, ?_, out_pure R hK ?_⟩
      · simp only [Instr.loadAt, Instr.sureAddr, Sem.run_bind, Sem.run_pure, Result.andThen_ok]
        exact run_loadVar_cells h2 f1 (fun j v hj => by rw [Addr.add_mk]; exact f4 j v hj)
      · simp only [SV.is]; exact ⟨xs, f2, f3, rfl⟩
  · rename_i i off he
    rw [he] at hv
    have e3 := by simpa only [SV.is] using hv
    obtain ⟨cs, hB, hk⟩ := hk
    have hc := tab_cells (ρ := ρ) X R.mem hB
    rw [e3]
    cases g with
    | none =>
      obtain ⟨v, hv', hK⟩ := hk
      obtain ⟨y, f1, f2, f3⟩ := hc off v hv'
      rw [Nat.zero_add] at f1
      exact ⟨y, by simp [Instr.loadAt, Instr.sureAddr, run_loadVar_cell h2 f1], out_pure R hK f2⟩
    | some k =>
      obtain ⟨hlen, hK⟩ := hk
      obtain ⟨xs, f1, f2, f3, f4⟩ := cells_list hc off k hlen
      refine ⟨.agg xs.toArray, ?_, out_pure R hK ?_⟩
      · simp only [Instr.loadAt, Instr.sureAddr, Sem.run_bind, Sem.run_pure, Result.andThen_ok]
        exact run_loadVar_cells h2 f1 (fun j v hj => by rw [Addr.add_mk]; have := f4 j v hj; rwa [Nat.zero_add] at this)
      · simp only [SV.is]; exact ⟨xs, f2, f3, rfl⟩
  · exact hk.elim

theorem cells?_is {v : SV} {l : List SV} (h : v.cells? = some l) {x : Value} (hv : v.is ρ x) :
    SV.isL ρ l x.cells.toList ∧ ∀ y ∈ x.cells.toList, y.oneCell' = true := by
  cases v with
  | agg l' =>
    simp [SV.cells?] at h; subst h
    obtain ⟨xs, h1, h2, rfl⟩ := by simpa only [SV.is] using hv
    simpa [Value.cells] using ⟨h1, h2⟩
  | any => simp [SV.cells?, SV.one] at h
  | tup => simp [SV.cells?, SV.one] at h
  | _ =>
    simp only [SV.cells?] at h
    split at h
    · rename_i ho
      cases h
      have h1 := SV.one_is ho hv
      have hc : x.cells = #[x] := by cases x <;> first | rfl | (simp [Value.oneCell'] at h1)
      rw [hc]
      refine ⟨by simp only [SV.isL]; exact ⟨x, [], rfl, hv, rfl⟩, by simpa using h1⟩
    · cases h

theorem new_ok (R : Rel C N ρ fr m n a w) {e : TypeId} {l : List SV} {xs : List Value} (h : SV.isL ρ l xs) (h1 : ∀ y ∈ xs, y.oneCell' = true)
    {w' : World} (hsd : w'.os = w.os ∧ w'.output = w.output) (hw : w'.heap = w.heap.push (.cells xs.toArray e (0, 0))) :
    MemOk C (ρ.set n ⟨some w.heap.size, 0, xs.length⟩) ((n, ⟨.own e, l⟩) :: m) (n + 1) w' ∧ ρ.le (ρ.set n ⟨some w.heap.size, 0, xs.length⟩) := by
  refine ⟨?_, Env.le_set (R.mem.fresh _ (Nat.le_refl _))⟩
  have := R.mem.alloc R.n0 xs.toArray e (0, 0) l hw hsd (.inl (Nat.le_refl _)) (by simp [SV.isL_length h])
    (fun j v hj => by
      obtain ⟨x, e1, e2⟩ := SV.isL_get h j v hj
      exact ⟨x, by simpa using e1, e2, h1 x (List.mem_of_getElem? e1)⟩)
  simpa using this

theorem out_new (R : Rel C N ρ fr m n a w) {e : TypeId} {l : List SV} {xs : List Value} (h : SV.isL ρ l xs) (h1 : ∀ y ∈ xs, y.oneCell' = true)
    {w' : World} (hsd : w'.os = w.os ∧ w'.output = w.output) (hw : w'.heap = w.heap.push (.cells xs.toArray e (0, 0))) {v : SV} (hK : K v ((n, ⟨.own e, l⟩) :: m) (n + 1)) {x : Value}
    (hx : v.is (ρ.set n ⟨some w.heap.size, 0, xs.length⟩) x) : Out C ρ K x w' :=
  let ⟨h2, h3⟩ := new_ok R h h1 hsd hw
  ⟨_, v, _, _, h3, hK, hx, h2, by have := R.n0; omega⟩

theorem set_self {ρ : Env} {i : Nat} {L : Loc} : (ρ.set i L) i = some L := by unfold Env.set; rw [if_pos rfl]
end
end Go.Sx
