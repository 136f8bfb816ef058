/- The engine, part G: literals, slices, strings, the builtins. -/
import Derived.Test.YtflkcganpgjkkaaDoorEngF
namespace Go.Sx
open Go
set_option linter.unusedSimpArgs false
set_option linter.unusedVariables false

/-- where the parts of a struct, or of an array, lie -/
def placeOf (P : Program) (t : TypeId) : Option (Nat → Option (Nat × Nat)) :=
  match P.underlying t with
  | some (.struct fs) => some fun i => match fs[i]? with
    | some f => (sizeT P f.type).map fun s => (f.offset, s)
    | none => none
  | some (.array _ e) => (sizeT P e).map fun s => fun i => some (i * s, s)
  | _ => none

section
variable {C : Ctx} {N : Nat} {ρ : Env} {fr : Fr} {m : Mem} {n : Nat} {a : Act} {w : World} {K : Kt} {T : List (Nat × List SV)} {call : CallT}

theorem run_places {P : Program} : ∀ (fs : List Field) (w : World), (∀ f ∈ fs, (sizeT P f.type).isSome = true) →
    (fs.mapM (m := Sem) fun f => do pure (f.offset, ← sizeOf f.type)).run P w = .ok (fs.map fun f => (f.offset, (sizeT P f.type).getD 0)) w
  | [], w, _ => by simp
  | f :: fs, w, h => by
    obtain ⟨k, hk⟩ := Option.isSome_iff_exists.1 (h f List.mem_cons_self)
    rw [List.mapM_cons]
    simp only [Sem.run_bind, run_sizeOf_of hk, Result.andThen_ok, Sem.run_pure, run_places fs w (fun g hg => h g (List.mem_cons_of_mem _ hg)), List.map_cons, hk, Option.getD_some]

theorem fill_congr {p q : Nat → Option (Nat × Nat)} : ∀ (l : List (Nat × Value)) (xs : Array Value), (∀ x ∈ l, p x.1 = q x.1) → Instr.fill p xs l = Instr.fill q xs l
  | [], _, _ => rfl
  | (i, v) :: l, xs, h => by
    have h0 := h (i, v) List.mem_cons_self
    simp only at h0
    simp only [Instr.fill, h0]
    split
    · rfl
    · split
      · rfl
      · exact fill_congr l _ fun x hx => h x (List.mem_cons_of_mem _ hx)

def fieldsSized (P : Program) (t : TypeId) : Bool :=
  match P.underlying t with
  | some (.struct fs) => fs.toList.all fun f => (sizeT P f.type).isSome
  | _ => true

theorem build_op (R : Rel C N ρ fr m n a w) {t : TypeId} {z : List SV} {ps : Array (Nat × Operand)} {qs : List (Nat × Nat × Opd)} {place : Nat → Option (Nat × Nat)}
    (h : zeroOk C.P t z = true) (hp : placeOf C.P t = some place) (hf : fieldsSized C.P t = true) (hq : partsOk place ps.toList qs = true)
    (hk : exO T call fr m n K (.build z qs)) :
    ∃ y, (Instr.build t (ps.map fun (i, x) => (i, a.eval x))).run C.P w = .ok y w ∧ Out C ρ K y w := by
  simp only [exO] at hk
  obtain ⟨v, h1, h2, h3⟩ := zeroOk_run (ρ := ρ) (w := w) h
  obtain ⟨xs', cs', e1, e2, e3, e4⟩ := fill_ok R place ps.toList qs z v.cells _ hq h2 h3 hk
  refine ⟨.agg xs', ?_, out_pure R e2 ?_⟩
  · have hps : (ps.map fun (i, x) => (i, a.eval x)).toList = ps.toList.map fun p => (p.1, a.eval p.2) := by simp
    unfold placeOf at hp
    cases hu : C.P.underlying t with
    | none => simp [hu] at hp
    | some d =>
      cases d with
      | struct fs =>
        simp only [hu, Option.some.injEq] at hp
        subst hp
        unfold fieldsSized at hf
        simp only [hu, List.all_eq_true] at hf
        have hfill : Instr.fill (((fs.toList.map fun f => (f.offset, (sizeT C.P f.type).getD 0)).toArray)[·]?) v.cells (ps.toList.map fun p => (p.1, a.eval p.2)) = some xs' := by
          rw [← e1]
          refine fill_congr _ _ fun x _ => ?_
          simp
          cases hx : fs[x.1]? with
          | none => simp
          | some f =>
            have := hf f (by simpa using Array.mem_of_getElem? hx)
            obtain ⟨k, hk⟩ := Option.isSome_iff_exists.1 this
            simp [hk]
        simp only [Instr.build, Sem.run_bind, h1, Result.andThen_ok, run_und hu, hps]
        rw [Array.mapM_eq_mapM_toList]
        simp only [Sem.run_map, run_places fs.toList w hf, Result.andThen_ok]
        rw [hfill]; rfl
      | array k e =>
        simp only [hu] at hp
        obtain ⟨s, hs, rfl⟩ := Option.map_eq_some_iff.1 hp
        simp only [Instr.build, Sem.run_bind, h1, Result.andThen_ok, run_und hu, hps, run_sizeOf_of hs]
        rw [e1]; rfl
      | _ => simp [hu] at hp
  · simp only [SV.is]; exact ⟨_, e3, e4, rfl⟩

theorem bslice_op (R : Rel C N ρ fr m n a w) {t e : TypeId} {s k : Nat} {z : List SV} {zv : Value} {ps : Array (Nat × Operand)} {qs : List (Nat × Nat × Opd)}
    (ht : C.P.underlying t = some (.slice e)) (hs : sizeT C.P e = some s) (hz : k * s ≠ 0 → (C.P.info? e).bind (·.zero) = some zv)
    (hzz : cstsOk z ((Array.range (k * s)).map (zv.cells[· % zv.cells.size]!)).toList = true) (hsm : k * s ≤ 2 ^ 24)
    (hq : partsOk (fun i => some (i * s, s)) ps.toList qs = true) (hk : exO T call fr m n K (.bslice e s k z qs)) :
    ∃ y w', (Instr.buildSlice t k (ps.map fun (i, x) => (i, a.eval x))).run C.P w = .ok y w' ∧ Out C ρ K y w' := by
  simp only [exO] at hk
  obtain ⟨h2, h3⟩ := cstsOk_is (ρ := ρ) hzz
  obtain ⟨xs', cs', e1, e2, e3, e4⟩ := fill_ok R (fun i => some (i * s, s)) ps.toList qs z _ _ hq h2 h3 hk
  have hps : (ps.map fun (i, x) => (i, a.eval x)).toList = ps.toList.map fun p => (p.1, a.eval p.2) := by simp
  refine ⟨.slice (some ⟨w.heap.size, 0, none⟩) k k, { w with heap := w.heap.push (.cells xs' e) }, ?_, out_new R e3 e4 (by exact ⟨rfl, rfl⟩) (by simp) e2 ?_⟩
  · unfold Instr.buildSlice
    simp only [Sem.run_bind, run_und ht, Result.andThen_ok, run_sizeOf_of hs, Sem.run_ite]
    rw [if_neg (by omega)]
    by_cases h0 : k * s = 0
    · rw [if_pos h0]
      simp only [Sem.run_pure, Result.andThen_ok, hps]
      rw [show (Array.map (fun x => (#[] : Array Value)[x % (#[] : Array Value).size]!) (Array.range (k * s))) = Array.map (fun x => zv.cells[x % zv.cells.size]!) (Array.range (k * s)) by simp [h0], e1]
      simp [newRow]
    · rw [if_neg h0]
      have := hz h0
      cases hi : C.P.info? e with
      | none => simp [hi] at this
      | some i =>
        simp [hi] at this
        have hzv : (zeroValue e).run C.P w = .ok zv w := by simp [zeroValue, typeInfo, hi, this]
        simp only [hzv, Sem.run_pure, Result.andThen_ok, hps]
        rw [e1]
        simp [newRow]
  · simp only [SV.is]; exact ⟨_, some ⟨w.heap.size, 0, none⟩, set_self, rfl, .inl rfl⟩

theorem pick_op (R : Rel C N ρ fr m n a w) {oc oa ob : Operand} {c x y : Opd} (h1 : opdOk oc c = true) (h2 : opdOk oa x = true) (h3 : opdOk ob y = true)
    (hk : exO T call fr m n K (.pick c x y)) :
    ∃ b, a.eval oc = .bool b ∧ Out C ρ K (if b = true then a.eval oa else a.eval ob) w := by
  simp only [exO] at hk
  obtain ⟨b, e, hk⟩ := onBool_is hk (ev_is R h1)
  refine ⟨b, e, ?_⟩
  cases b
  · exact out_pure R (hk.2 rfl) (ev_is R h3)
  · exact out_pure R (hk.1 rfl) (ev_is R h2)

theorem mkfn_op (R : Rel C N ρ fr m n a w) {f : FuncId} {os os' : Array Operand} {xs xs' : List Opd} (h1 : os.toList.length = xs.length) (h2 : os'.toList.length = xs'.length)
    (h3 : ∀ (j : Nat) o x, os.toList[j]? = some o → xs[j]? = some x → opdOk o x = true) (h4 : ∀ (j : Nat) o x, os'.toList[j]? = some o → xs'[j]? = some x → opdOk o x = true)
    (hk : exO T call fr m n K (.mkfn f xs xs')) :
    ∃ z, (Instr.makeFunc (.func f) (os.map a.eval) (os'.map a.eval)).run C.P w = .ok z w ∧ Out C ρ K z w := by
  simp only [exO] at hk
  have key : ∀ (os : List Operand) (xs : List Opd), os.length = xs.length → (∀ (j : Nat) o x, os[j]? = some o → xs[j]? = some x → opdOk o x = true) →
      SV.isL ρ (xs.map (·.ev fr)) (os.map a.eval) := by
    intro os xs hl h
    refine SV.isL_of_get (by simp [hl]) fun j v hj => ?_
    simp at hj
    obtain ⟨x, hx, rfl⟩ := hj
    have hlt : j < os.length := by
      rcases Nat.lt_or_ge j os.length with h' | h'
      · exact h'
      · rw [List.getElem?_eq_none (by omega)] at hx; cases hx
    refine ⟨a.eval os[j], by simp [List.getElem?_eq_getElem hlt], ev_is R (h j _ x (List.getElem?_eq_getElem hlt) hx)⟩
  refine ⟨_, rfl, out_pure R hk ?_⟩
  simp only [SV.is]
  refine ⟨_, _, key os.toList xs h1 h3, key os'.toList xs' h2 h4, ?_⟩
  congr 1 <;> (apply Array.ext'; simp)

theorem nilc_op (R : Rel C N ρ fr m n a w) {o : Operand} {x : Opd} (h1 : opdOk o x = true) (hk : exO T call fr m n K (.nilc x)) :
    (∃ i, a.eval o = .pointer (some i) ∨ ∃ f p q, a.eval o = .func (.func f) p q) ∧ Out C ρ K (a.eval o) w := by
  have hv := ev_is R h1
  simp only [exO] at hk
  split at hk
  · rename_i i off he
    rw [he] at hv
    obtain ⟨L, b, e1, e2, e3⟩ := by simpa only [SV.is] using hv
    exact ⟨⟨_, .inl e3⟩, out_pure R hk hv⟩
  · rename_i i off he
    rw [he] at hv
    have e3 := by simpa only [SV.is] using hv
    exact ⟨⟨_, .inl e3⟩, out_pure R hk hv⟩
  · rename_i f p q he
    rw [he] at hv
    obtain ⟨as', bs', _, _, e⟩ := by simpa only [SV.is] using hv
    exact ⟨⟨default, .inr ⟨f, _, _, e⟩⟩, out_pure R hk hv⟩
  · exact hk.elim

theorem ext_op (R : Rel C N ρ fr m n a w) {o : Operand} {x : Opd} {i : Nat} (h1 : opdOk o x = true) (hk : exO T call fr m n K (.ext x i)) :
    ∃ y, (Instr.extract (a.eval o) i).run C.P w = .ok y w ∧ Out C ρ K y w := by
  have hv := ev_is R h1
  simp only [exO] at hk
  split at hk
  · rename_i l he
    rw [he] at hv
    obtain ⟨xs, e1, e2⟩ := by simpa only [SV.is] using hv
    obtain ⟨v, hv', hK⟩ := hk
    obtain ⟨y, f1, f2⟩ := SV.isL_get e1 i v hv'
    exact ⟨y, by simp [e2, Instr.extract, f1], out_pure R hK f2⟩
  · exact hk.elim

theorem mx_op (R : Rel C N ρ fr m n a w) {o o' : Operand} {x y : Opd} (h1 : opdOk o x = true) (h2 : opdOk o' y = true) (hk : exO T call fr m n K (.mx x y)) (A : Array TypeId) (t : TypeId) :
    ∃ z, (Builtin.max_ A t #[a.eval o, a.eval o']).run C.P w = .ok z w ∧ Out C ρ K z w := by
  have hv := ev_is R h1
  have hv' := ev_is R h2
  simp only [exO] at hk
  split at hk
  · rename_i k i k' j he he'
    rw [he] at hv; rw [he'] at hv'
    have e := by simpa only [SV.is] using hv
    have e' := by simpa only [SV.is] using hv'
    rw [e, e']
    exact ⟨_, by simp [Builtin.max_, Builtin.max2]; rfl, out_pure R hk (by simp [SV.is])⟩
  · exact hk.elim
theorem mn_op (R : Rel C N ρ fr m n a w) {o o' : Operand} {x y : Opd} (h1 : opdOk o x = true) (h2 : opdOk o' y = true) (hk : exO T call fr m n K (.mn x y)) (A : Array TypeId) (t : TypeId) :
    ∃ z, (Builtin.min_ A t #[a.eval o, a.eval o']).run C.P w = .ok z w ∧ Out C ρ K z w := by
  have hv := ev_is R h1
  have hv' := ev_is R h2
  simp only [exO] at hk
  split at hk
  · rename_i k i k' j he he'
    rw [he] at hv; rw [he'] at hv'
    have e := by simpa only [SV.is] using hv
    have e' := by simpa only [SV.is] using hv'
    rw [e, e']
    exact ⟨_, by simp [Builtin.min_, Builtin.min2]; rfl, out_pure R hk (by simp [SV.is])⟩
  · exact hk.elim

def lenTy (P : Program) (isStr : Bool) (t : TypeId) : Bool :=
  match isStr, P.underlying t with
  | true, some .string => true
  | false, some (.slice _) => true
  | _, _ => false

theorem len_op (R : Rel C N ρ fr m n a w) {o : Operand} {x : Opd} {t ty : TypeId} {b : Bool} (h1 : opdOk o x = true)
    (h2 : lenTy C.P b t = true) (hk : exO T call fr m n K (.len b x)) :
    ∃ z, (Builtin.len_ #[t] ty #[a.eval o]).run C.P w = .ok z w ∧ Out C ρ K z w := by
  have hv := ev_is R h1
  simp only [exO] at hk
  unfold lenTy at h2
  split at hk
  · rename_i s he
    rw [he] at hv
    have e := by simpa only [SV.is] using hv
    cases hu : C.P.underlying t with
    | none => simp [hu] at h2
    | some d =>
      cases d <;> simp [hu] at h2
      exact ⟨_, by simp [Builtin.len_, run_und hu, e, goInt]; rfl, out_pure R hk (by simp [SV.is, ByteArray.size])⟩
  · rename_i i o' s l cap he
    rw [he] at hv
    obtain ⟨L, A, e1, e2, e3⟩ := by simpa only [SV.is] using hv
    cases hu : C.P.underlying t with
    | none => simp [hu] at h2
    | some d =>
      cases d <;> simp [hu] at h2
      exact ⟨_, by simp [Builtin.len_, run_und hu, e2, goInt]; rfl, out_pure R hk (by simp [SV.is])⟩
  · rename_i he
    rw [he] at hv
    have e := by simpa only [SV.is] using hv
    cases hu : C.P.underlying t with
    | none => simp [hu] at h2
    | some d =>
      cases d <;> simp [hu] at h2
      exact ⟨_, by simp [Builtin.len_, run_und hu, e, goInt]; rfl, out_pure R hk (by simp [SV.is])⟩
  · exact hk.elim

end
end Go.Sx
