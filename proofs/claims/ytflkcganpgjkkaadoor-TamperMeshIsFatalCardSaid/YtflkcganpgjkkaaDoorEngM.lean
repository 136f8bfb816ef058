/- The engine, part M: the check that a symbolic operation is the model's, and the theorem on one operation. -/
import Derived.Test.YtflkcganpgjkkaaDoorEngL
namespace Go.Sx
open Go
set_option linter.unusedSimpArgs false
set_option linter.unusedVariables false

def isSliceOf (P : Program) (t : TypeId) (s : Nat) : Bool :=
  match P.underlying t with
  | some (.slice e) => sizeT P e == some s
  | _ => false

def opdsOk : List Operand → List Opd → Bool
  | [], [] => true
  | o :: os, x :: xs => opdOk o x && opdsOk os xs
  | _, _ => false

def isUnd (P : Program) (t : TypeId) (d : TypeDesc → Bool) : Bool :=
  match P.underlying t with
  | some u => d u
  | none => false

def nilSlice : Operand → Bool
  | .const (.slice none 0 0) => true
  | _ => false

def chkBin (P : Program) (op : BinOp) (t : TypeId) (o o' : Operand) : SOp → Bool
  | .bin op' x y => op == op' && opdOk o x && opdOk o' y
  | .eqv neg pat x y => op == (if neg then .neq else .eql) && opdOk o x && opdOk o' y && tagsOf P 20 t == some pat && !(P.eqGuardType P.depth t) &&
      (match aggOf P t with | some (some _) => true | _ => false)
  | .eqb neg x y => op == (if neg then .neq else .eql) && opdOk o x && opdOk o' y && isUnd P t (fun | .bool => true | _ => false)
  | .isNil neg x => op == (if neg then .neq else .eql) && opdOk o x && nilSlice o' && isUnd P t (fun | .slice _ => true | _ => false)
  | _ => false

def chkConv (P : Program) (s d : TypeId) (o : Operand) : SOp → Bool
  | .strS x => opdOk o x && (P.underlying s).isSome && isUnd P d (fun | .string => true | _ => false)
  | .conv k x => opdOk o x && (P.underlying s).isSome && isUnd P d (fun | .int k' => k' == k | _ => false)
  | .b2s x => opdOk o x && isUnd P d (fun | .string => true | _ => false) && isUnd P s (fun | .slice e => isUnd P e (fun | .int .u8 => true | _ => false) | _ => false)
  | .s2b e x => opdOk o x && (P.underlying s).isSome && isUnd P e (fun | .int .u8 => true | _ => false) && isUnd P d (fun | .slice e' => e' == e | _ => false)
  | _ => false

def chkCall (P : Program) (c : Call) : SOp → Bool
  | .callp f xs => (match c.callee with | .value (.func g) => g == f | _ => false) && opdsOk c.args.toList xs
  | .call f xs => (match c.callee with | .value (.func g) => g == f | _ => false) && opdsOk c.args.toList xs
  | .callv x xs => (match c.callee with | .value o => opdOk o x | _ => false) && opdsOk c.args.toList xs
  | .len b x => (match c.callee with | .builtin .len => true | _ => false) && opdsOk c.args.toList [x] && (match c.argTypes.toList with | [t] => lenTy P b t | _ => false)
  | .lenA n => (match c.callee with | .builtin .len => true | _ => false) && c.args.size == 1 && (match c.argTypes.toList with | [t] => (arrTy P t).map (·.1) == some n | _ => false)
  | .app e s b x y => (match c.callee with | .builtin .append => true | _ => false) && opdsOk c.args.toList [x, y] && (match c.argTypes.toList with | [t, u] => appTy P t u e s b | _ => false)
  | .copy s x y => (match c.callee with | .builtin .copy => true | _ => false) && opdsOk c.args.toList [x, y] && s != 0 && (match c.argTypes.toList with | [t, _] => isSliceOf P t s | _ => false)
  | .mx x y => (match c.callee with | .builtin .max => true | _ => false) && opdsOk c.args.toList [x, y]
  | .mn x y => (match c.callee with | .builtin .min => true | _ => false) && opdsOk c.args.toList [x, y]
  | _ => false

def chkO (P : Program) (o : Op) (s : SOp) : Bool :=
  match o with
  | .move y | .assign y => match s with | .mv x => opdOk y x | _ => false
  | .pick c a b => match s with | .pick c' a' b' => opdOk c c' && opdOk a a' && opdOk b b' | _ => false
  | .alloc t => match s with | .new e z => e == t && zeroOk P t z | _ => false
  | .box t y => match s with | .box e x => e == t && opdOk y x | _ => false
  | .build t ps => match s with
    | .build z qs => zeroOk P t z && fieldsSized P t && (match placeOf P t with | some place => partsOk place ps.toList qs | none => false)
    | _ => false
  | .buildSlice t k ps => match s with
    | .bslice e sz k' z qs => k == k' && isUnd P t (fun | .slice e' => e' == e | _ => false) && sizeT P e == some sz &&
        (match (P.info? e).bind (·.zero) with | some zv => cstsOk z ((Array.range (k * sz)).map (zv.cells[· % zv.cells.size]!)).toList | none => false) &&
        decide (k * sz ≤ 2 ^ 24) && partsOk (fun i => some (i * sz, sz)) ps.toList qs
    | _ => false
  | .load t y => match s with | .load g x => aggOf P t == some g && opdOk y x | _ => false
  | .store t y v => match s with | .store k x z => sizeT P t == some k && opdOk y x && opdOk v z | _ => false
  | .nilCheck y => match s with | .nilc x => opdOk y x | _ => false
  | .fieldAddr t y f => match s with
    | .fld x off => opdOk y x && (match P.underlying t with
      | some (.struct fs) => (match fs[f]? with | some fd => fd.offset == off && (match sizeT P fd.type with | some k => k != 0 | none => false) | none => false)
      | _ => false)
    | _ => false
  | .field t y f => match s with
    | .fieldV x off g => opdOk y x && (match P.underlying t with
      | some (.struct fs) => (match fs[f]? with | some fd => fd.offset == off && aggOf P fd.type == some g | none => false)
      | _ => false)
    | _ => false
  | .indexAddr t y j => match s with
    | .idxA x i len sz => opdOk y x && opdOk j i && (match P.underlying t with | some (.array n e) => n == len && sizeT P e == some sz | _ => false)
    | .idxS x i sz => opdOk y x && opdOk j i && isSliceOf P t sz
    | _ => false
  | .index t y j => match s with
    | .idxV x i len sz g => opdOk y x && opdOk j i && (match P.underlying t with
      | some (.array n e) => n == len && sizeT P e == some sz && aggOf P e == some (if g then some sz else none)
      | _ => false)
    | .idxT x i => opdOk y x && opdOk j i && isUnd P t (fun | .string => true | _ => false)
    | _ => false
  | .binOp op t y z _ => chkBin P op t y z s
  | .unOp op _ y => match s with | .un op' x => op == op' && opdOk y x | _ => false
  | .convert u d y => chkConv P u d y s
  | .makeFunc (.func f) os os' => match s with | .mkfn g xs xs' => f == g && opdsOk os.toList xs && opdsOk os'.toList xs' | _ => false
  | .makeSlice t l c => match s with
    | .mksl e sz b z x y => isUnd P t (fun | .slice e' => e' == e | _ => false) && opdOk l x && opdOk c y &&
        (match P.info? e with | some i => i.bytes == b && i.size == sz && (match i.zero with | some zv => cstsOk z zv.cells.toList && z.length == sz | none => false) | none => false)
    | _ => false
  | .slice t y lo hi none => match s with
    | .slcS sz x l h => opdOk y x && optOk lo l && optOk hi h && isSliceOf P t sz && sz != 0
    | .slcA k sz x l h => opdOk y x && optOk lo l && optOk hi h && (match arrTy P t with | some (n, e) => n == k && sizeT P e == some sz | none => false)
    | .slcT x l h => opdOk y x && optOk lo l && optOk hi h && isUnd P t (fun | .string => true | _ => false)
    | _ => false
  | .sliceToArrayPointer t y => match s with | .arrAt k x => opdOk y x && (match P.underlying t with | some (.array n _) => n == k | _ => false) | _ => false
  | .extract y i => match s with | .ext x j => opdOk y x && i == j | _ => false
  | .call c => chkCall P c s
  | _ => false

theorem isUnd_some {P : Program} {t : TypeId} {d : TypeDesc → Bool} (h : isUnd P t d = true) : ∃ u, P.underlying t = some u ∧ d u = true := by
  unfold isUnd at h
  cases hu : P.underlying t with
  | none => simp [hu] at h
  | some u => simp only [hu] at h; exact ⟨u, rfl, h⟩
theorem isSliceOf_some {P : Program} {t : TypeId} {s : Nat} (h : isSliceOf P t s = true) : ∃ e, P.underlying t = some (.slice e) ∧ sizeT P e = some s := by
  unfold isSliceOf at h
  cases hu : P.underlying t with
  | none => simp [hu] at h
  | some u => cases u <;> simp [hu] at h; exact ⟨_, rfl, h⟩
theorem und_string {P : Program} {t : TypeId} (h : isUnd P t (fun | .string => true | _ => false) = true) : P.underlying t = some .string := by
  obtain ⟨u, h1, h2⟩ := isUnd_some h
  cases u <;> simp at h2; exact h1
theorem und_bool {P : Program} {t : TypeId} (h : isUnd P t (fun | .bool => true | _ => false) = true) : P.underlying t = some .bool := by
  obtain ⟨u, h1, h2⟩ := isUnd_some h
  cases u <;> simp at h2; exact h1
theorem und_u8 {P : Program} {t : TypeId} (h : isUnd P t (fun | .int .u8 => true | _ => false) = true) : P.underlying t = some (.int .u8) := by
  obtain ⟨u, h1, h2⟩ := isUnd_some h
  cases u <;> (try simp at h2)
  rename_i k; cases k <;> simp at h2; exact h1
theorem und_int {P : Program} {t : TypeId} {k : IntKind} (h : isUnd P t (fun | .int k' => k' == k | _ => false) = true) : P.underlying t = some (.int k) := by
  obtain ⟨u, h1, h2⟩ := isUnd_some h
  cases u <;> simp at h2
  rw [h1, h2]
theorem und_slice {P : Program} {t e : TypeId} (h : isUnd P t (fun | .slice e' => e' == e | _ => false) = true) : P.underlying t = some (.slice e) := by
  obtain ⟨u, h1, h2⟩ := isUnd_some h
  cases u <;> simp at h2
  rw [h1, h2]
theorem und_anyslice {P : Program} {t : TypeId} (h : isUnd P t (fun | .slice _ => true | _ => false) = true) : ∃ e, P.underlying t = some (.slice e) := by
  obtain ⟨u, h1, h2⟩ := isUnd_some h
  cases u <;> simp at h2
  exact ⟨_, h1⟩

theorem opdsOk_get : ∀ {os : List Operand} {xs : List Opd}, opdsOk os xs = true → os.length = xs.length ∧ ∀ (j : Nat) o x, os[j]? = some o → xs[j]? = some x → opdOk o x = true
  | [], [], _ => ⟨rfl, fun j o x h => by simp at h⟩
  | o :: os, x :: xs, h => by
    simp only [opdsOk, Bool.and_eq_true] at h
    obtain ⟨h1, h2⟩ := opdsOk_get h.2
    refine ⟨by simp [h1], fun j o' x' ho hx => ?_⟩
    cases j with
    | zero => simp at ho hx; subst ho; subst hx; exact h.1
    | succ j => exact h2 j o' x' (by simpa using ho) (by simpa using hx)
  | [], _ :: _, h => by simp [opdsOk] at h
  | _ :: _, [], h => by simp [opdsOk] at h

section
variable {C : Ctx} {N : Nat} {ρ : Env} {fr : Fr} {m : Mem} {n : Nat} {a : Act} {w : World} {K : Kt}

theorem evs_is (R : Rel C N ρ fr m n a w) {os : List Operand} {xs : List Opd} (h : opdsOk os xs = true) : SV.isL ρ (xs.map (·.ev fr)) (os.map a.eval) := by
  obtain ⟨hl, hg⟩ := opdsOk_get h
  refine SV.isL_of_get (by simp [hl]) fun j v hj => ?_
  simp at hj
  obtain ⟨x, hx, rfl⟩ := hj
  have hlt : j < os.length := by
    rcases Nat.lt_or_ge j os.length with h' | h'
    · exact h'
    · rw [List.getElem?_eq_none (by omega)] at hx; cases hx
  exact ⟨a.eval os[j], by simp [List.getElem?_eq_getElem hlt], ev_is R (hg j _ x (List.getElem?_eq_getElem hlt) hx)⟩

/-- a call of a function of the program, from its contract -/
theorem callFunc_ok (R : Rel C N ρ fr m n a w) (X : CtxOk C) {f : FuncId} {args : List SV} {vals : List Value} (hv : SV.isL ρ args vals)
    (hk : callT C.P C.T f args m n K) : OpPost C ρ K ((callFunc f vals.toArray).run C.P w) := by
  obtain ⟨hs, args0, m0, r0, m1, n1, F, rfl, hc, ha, hkb, hlt, hzs, hK⟩ := hk
  have hf := F.fok
  unfold funcOk at hf
  cases hfn : C.P.funcs[f]? with
  | none => simp [hfn] at hf
  | some fn =>
    simp only [hfn, Bool.and_eq_true, Bool.not_eq_true'] at hf
    have hbody : fn.body.isNone = false := by
      cases hb : fn.body with
      | none => rw [hb] at hf; simp at hf
      | some _ => rfl
    unfold callFunc
    simp only [Sem.run_bind, run_program, Result.andThen_ok, hfn, hf.1, hbody, Bool.false_eq_true, if_false, Sem.run_pure]
    show Calls C.P f vals.toArray w _
    refine (call_ok R.mem X R.n0 F hc ha hkb (fun i hi => ?_) hzs hv hK).mono ?_
    · rw [eta_lt hi]; exact hlt _ (List.getElem_mem hi)
    · rintro e w' ⟨x, he, ρ', v, m', n', h1, h2, h3, h4, h5⟩
      exact ⟨x, he, ρ', v, m', n', h1, h2, h3, h4, h5⟩

theorem post_value {s : Sem Value} {y : Value} {w' : World} (h : s.run C.P w = .ok y w') (ho : Out C ρ K y w') :
    OpPost C ρ K ((do pure (.value (← s)) : Sem Next).run C.P w) := by
  simp only [Sem.run_bind, h, Result.andThen_ok, Sem.run_pure]; exact ho

theorem bin_post (X : CtxOk C) (R : Rel C N ρ fr m n a w) {op : BinOp} {t : TypeId} {o o' : Operand} {s : SOp} (h : chkBin C.P op t o o' s = true)
    (hk : exO C.T (callT C.P C.T) fr m n K s) :
    ∃ z, (do eqGuard op t o o' (a.eval o) (a.eval o'); binOp op t (a.eval o) (a.eval o') : Sem Value).run C.P w = .ok z w ∧ Out C ρ K z w := by
  unfold chkBin at h
  split at h
  · simp only [Bool.and_eq_true, beq_iff_eq] at h
    obtain ⟨⟨rfl, h2⟩, h3⟩ := h
    exact bin_ok (t' := t) R h2 h3 hk
  · simp only [Bool.and_eq_true, beq_iff_eq, Bool.not_eq_true'] at h
    obtain ⟨⟨⟨⟨⟨rfl, h2⟩, h3⟩, h4⟩, h5⟩, h6⟩ := h
    split at h6
    · rename_i k hk'
      exact eqv_op R h2 h3 (d := 20) (by omega) h4 h5 hk' hk
    · cases h6
  · simp only [Bool.and_eq_true, beq_iff_eq] at h
    obtain ⟨⟨⟨rfl, h2⟩, h3⟩, h4⟩ := h
    exact eqb_op R h2 h3 (und_bool h4) hk
  · simp only [Bool.and_eq_true, beq_iff_eq] at h
    obtain ⟨⟨⟨rfl, h2⟩, h3⟩, h4⟩ := h
    obtain ⟨e, he⟩ := und_anyslice h4
    refine isNil_op R h2 ?_ he hk
    unfold nilSlice at h3
    split at h3
    · rfl
    · cases h3
  · cases h

theorem conv_post (R : Rel C N ρ fr m n a w) {s d : TypeId} {o : Operand} {q : SOp} (h : chkConv C.P s d o q = true)
    (hk : exO C.T (callT C.P C.T) fr m n K q) :
    ∃ z w', (convert s d (a.eval o)).run C.P w = .ok z w' ∧ Out C ρ K z w' := by
  unfold chkConv at h
  split at h
  · simp only [Bool.and_eq_true] at h
    obtain ⟨⟨h1, h2⟩, h3⟩ := h
    obtain ⟨u, hu⟩ := Option.isSome_iff_exists.1 h2
    have hv := ev_is R h1
    simp only [exO] at hk
    split at hk
    · rename_i t he
      rw [he] at hv
      have e := by simpa only [SV.is] using hv
      refine ⟨_, w, ?_, out_pure R hk hv⟩
      rw [e]
      have hd := und_string h3
      simp [convert, run_und hu, run_und hd]
    · exact hk.elim
  · simp only [Bool.and_eq_true] at h
    obtain ⟨⟨h1, h2⟩, h3⟩ := h
    obtain ⟨u, hu⟩ := Option.isSome_iff_exists.1 h2
    obtain ⟨z, r1, r2⟩ := conv_ok R h1 hu (und_int h3) hk
    exact ⟨z, w, r1, r2⟩
  · simp only [Bool.and_eq_true] at h
    obtain ⟨⟨h1, h2⟩, h3⟩ := h
    obtain ⟨u, hu, hu'⟩ := isUnd_some h3
    cases u <;> simp at hu'
    obtain ⟨z, r1, r2⟩ := b2s_op R h1 hu (und_u8 hu') (und_string h2) hk
    exact ⟨z, w, r1, r2⟩
  · simp only [Bool.and_eq_true] at h
    obtain ⟨⟨⟨h1, h2⟩, h3⟩, h4⟩ := h
    obtain ⟨u, hu⟩ := Option.isSome_iff_exists.1 h2
    exact s2b_op R h1 hu (und_u8 h3) (und_slice h4) hk
  · cases h

theorem builtin_post {b : Builtin} {A : Array TypeId} {t : TypeId} {cs : Array Bool} {s : Sem Value} {y : Value} {w' : World} (h : s.run C.P w = .ok y w') (ho : Out C ρ K y w') :
    OpPost C ρ K ((do pure (.value (← s)) : Sem Next).run C.P w) := post_value h ho

theorem args1 {os : Array Operand} {x : Opd} (h : opdsOk os.toList [x] = true) : ∃ o, os = #[o] ∧ opdOk o x = true := by
  obtain ⟨l⟩ := os
  match l, h with
  | [o], h => simp [opdsOk] at h; exact ⟨o, rfl, h⟩
  | [], h => simp [opdsOk] at h
  | _ :: _ :: _, h => simp [opdsOk] at h
theorem args2 {os : Array Operand} {x y : Opd} (h : opdsOk os.toList [x, y] = true) : ∃ o o', os = #[o, o'] ∧ opdOk o x = true ∧ opdOk o' y = true := by
  obtain ⟨l⟩ := os
  match l, h with
  | [o, o'], h => simp [opdsOk] at h; exact ⟨o, o', rfl, h.1, h.2⟩
  | [], h => simp [opdsOk] at h
  | [_], h => simp [opdsOk] at h
  | _ :: _ :: _ :: _, h => simp [opdsOk] at h

/-- a call of a function of plain values -/
theorem callp_call {T : List (Nat × List SV)} {P : Program} {f : FuncId} {args : List SV} (hf : SV.flatL args = true)
    (h : callT P T f args [] 0 fun v m' n' => m' = [] ∧ n' = 0 ∧ v.flat = true ∧ K v m n) : callT P T f args m n K := by
  obtain ⟨hs, args0, m0, r0, m1, n1, F, h1, h2, h3, h4, h5, h6, h7, h8, h9, h10⟩ := h
  have h0 : hs = [] := by
    cases hs with
    | nil => rfl
    | cons x r => exact absurd (h5 x List.mem_cons_self) (by omega)
  subst h0
  have hm0 : m0 = [] := by
    cases m0 with
    | nil => rfl
    | cons x r =>
      obtain ⟨i, B⟩ := x
      simp only [compat] at h2
      obtain ⟨⟨B', hB', _⟩, _⟩ := h2
      simp [rd] at hB'
  subst hm0
  have hid : ∀ i, eta [] 0 i = (i, 0) := by intro i; simp [eta]
  rw [SV.renL_id _ hid] at h1
  rw [SV.ren_id _ hid] at h9 h10
  subst h1
  have hno : ∀ {η η' : Nat → Nat × Nat} {q : Mem}, newOwn η q = [] → newOwn η' q = [] := by
    intro η η' q
    induction q with
    | nil => intro _; rfl
    | cons x r ih =>
      obtain ⟨i, B⟩ := x
      unfold newOwn
      cases B.kind.isOwn with
      | true => intro h; simp at h
      | false => intro h; exact ih h
  have hq : newOwn (eta [] 0) m1 = [] := (List.append_eq_nil_iff.1 h7).1
  have hn : n1 = 0 := by simpa using h8
  refine ⟨[], args, [], r0, m1, n1, F, (SV.flatL_ren _ _ hf).symm, trivial, trivial, trivial, by simp, ?_, ?_⟩
  · have : ∀ q : Mem, zeroSh (eta [] n) q := by
      intro q
      induction q with
      | nil => trivial
      | cons x r ih => obtain ⟨i, B⟩ := x; exact ⟨fun _ => by simp [eta], ih⟩
    exact this m1
  · rw [SV.flat_ren _ _ h9, hno hq, hn]
    simpa [targets, rms] using h10

theorem call_post (X : CtxOk C) (R : Rel C N ρ fr m n a w) {c : Call} {ty : TypeId} {s : SOp} (h : chkCall C.P c s = true) (hk : exO C.T (callT C.P C.T) fr m n K s) :
    OpPost C ρ K ((do let d ← resolve a.eval c ty; invoke d.target d.args : Sem Next).run C.P w) := by
  obtain ⟨callee, args, argTypes⟩ := c
  unfold chkCall at h
  split at h
  · simp only [Bool.and_eq_true] at h
    obtain ⟨h1, h2⟩ := h
    split at h1
    · rename_i f xs g hc
      simp at h1; subst h1
      simp only [exO] at hk
      have := callFunc_ok R X (evs_is R h2) (callp_call hk.1 hk.2)
      have hm : args.map a.eval = (args.toList.map a.eval).toArray := by apply Array.ext'; simp
      simpa [resolve, Deferred.ofValue, Act.eval, invoke, hm] using this
    · cases h1
  · -- a function by name
    simp only [Bool.and_eq_true] at h
    obtain ⟨h1, h2⟩ := h
    split at h1
    · rename_i f xs g hc
      simp at h1; subst h1
      simp only [exO] at hk
      have := callFunc_ok R X (evs_is R h2) hk
      have hm : args.map a.eval = (args.toList.map a.eval).toArray := by apply Array.ext'; simp
      simpa [resolve, Deferred.ofValue, Act.eval, invoke, hm] using this
    · cases h1
  · simp only [Bool.and_eq_true] at h
    obtain ⟨h1, h2⟩ := h
    split at h1
    · rename_i xv xs o hc
      simp only [exO] at hk
      have hv := ev_is R h1
      split at hk
      · rename_i f first cap he
        rw [he] at hv
        obtain ⟨as', bs', e1, e2, e3⟩ := by simpa only [SV.is] using hv
        have := callFunc_ok R X (isL_append (isL_append e1 (evs_is R h2)) e2) hk
        have hm : args.map a.eval = (args.toList.map a.eval).toArray := by apply Array.ext'; simp
        simpa [resolve, Deferred.ofValue, e3, invoke, hm] using this
      · exact hk.elim
    · cases h1
  · simp only [Bool.and_eq_true] at h
    obtain ⟨⟨h1, h2⟩, h3⟩ := h
    split at h1
    · rename_i hc
      obtain ⟨o, rfl, ho⟩ := args1 h2
      split at h3
      · rename_i t ht
        obtain rfl : argTypes = _ := Array.ext' ht
        obtain ⟨z, r1, r2⟩ := len_op (ty := ty) R ho h3 hk
        simp only [resolve, Sem.run_bind, Sem.run_pure, Result.andThen_ok, invoke, builtin]
        simpa using post_value r1 r2
      · cases h3
    · cases h1
  · rename_i k
    simp only [Bool.and_eq_true] at h
    obtain ⟨⟨h1, h2⟩, h3⟩ := h
    split at h1
    · rename_i hc
      split at h3
      · rename_i t ht
        obtain rfl : argTypes = _ := Array.ext' ht
        simp only [exO] at hk
        have hsz : args.size = 1 := by simpa using h2
        obtain ⟨o, rfl⟩ : ∃ o, args = #[o] := by
          obtain ⟨l⟩ := args
          match l, hsz with
          | [o], _ => exact ⟨o, rfl⟩
        have hr : (Builtin.len_ #[t] ty #[a.eval o]).run C.P w = .ok (goInt k) w := by
          unfold arrTy at h3
          cases hu : C.P.underlying t with
          | none => simp [hu] at h3
          | some d =>
            cases d <;> simp [hu] at h3
            case array n' e => subst h3; simp [Builtin.len_, run_und hu]
            case pointer u =>
              cases hu' : C.P.underlying u with
              | none => simp [hu'] at h3
              | some d' => cases d' <;> simp [hu'] at h3; subst h3; simp [Builtin.len_, run_und hu, run_und hu']
        simp only [resolve, Sem.run_bind, Sem.run_pure, Result.andThen_ok, invoke, builtin]
        simpa using post_value hr (out_pure R hk (by simp [SV.is, goInt]))
      · cases h3
    · cases h1
  · simp only [Bool.and_eq_true] at h
    obtain ⟨⟨h1, h2⟩, h3⟩ := h
    split at h1
    · rename_i hc
      obtain ⟨o, o', rfl, ho, ho'⟩ := args2 h2
      split at h3
      · rename_i t u ht
        obtain rfl : argTypes = _ := Array.ext' ht
        obtain ⟨z, w', r1, r2⟩ := app_op (ty := ty) R ho ho' h3 hk
        simp only [resolve, Sem.run_bind, Sem.run_pure, Result.andThen_ok, invoke, builtin]
        simpa using post_value r1 r2
      · cases h3
    · cases h1
  · simp only [Bool.and_eq_true, bne_iff_ne, ne_eq] at h
    obtain ⟨⟨⟨h1, h2⟩, h4⟩, h3⟩ := h
    split at h1
    · rename_i hc
      obtain ⟨o, o', rfl, ho, ho'⟩ := args2 h2
      split at h3
      · rename_i t u ht
        obtain rfl : argTypes = _ := Array.ext' ht
        obtain ⟨e, q1, q2⟩ := isSliceOf_some h3
        obtain ⟨z, w', r1, r2⟩ := copy_op (ty := ty) (u := u) R ho ho' q1 q2 h4 hk
        simp only [resolve, Sem.run_bind, Sem.run_pure, Result.andThen_ok, invoke, builtin]
        simpa using post_value r1 r2
      · cases h3
    · cases h1
  · simp only [Bool.and_eq_true] at h
    obtain ⟨h1, h2⟩ := h
    split at h1
    · rename_i hc
      obtain ⟨o, o', rfl, ho, ho'⟩ := args2 h2
      obtain ⟨z, r1, r2⟩ := mx_op R ho ho' hk argTypes ty
      simp only [resolve, Sem.run_bind, Sem.run_pure, Result.andThen_ok, invoke, builtin]
      simpa using post_value r1 r2
    · cases h1
  · simp only [Bool.and_eq_true] at h
    obtain ⟨h1, h2⟩ := h
    split at h1
    · rename_i hc
      obtain ⟨o, o', rfl, ho, ho'⟩ := args2 h2
      obtain ⟨z, r1, r2⟩ := mn_op R ho ho' hk argTypes ty
      simp only [resolve, Sem.run_bind, Sem.run_pure, Result.andThen_ok, invoke, builtin]
      simpa using post_value r1 r2
    · cases h1
  · cases h
end
end Go.Sx
