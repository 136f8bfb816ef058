/- The engine, part L: equality of plain values. -/
import Derived.Test.YtflkcganpgjkkaaDoorEngK
import Derived.Laws.StructEq
namespace Go.Sx
open Go
set_option linter.unusedSimpArgs false
set_option linter.unusedVariables false

def tagsFs (rec : TypeId → Option (List Tag)) : List Field → Nat → Option (List Tag)
  | [], _ => some []
  | f :: fs, off =>
    if f.name = "_" then none else if f.offset ≠ off then none else
    match rec f.type with
    | none => none
    | some ps => match tagsFs rec fs (off + ps.length) with
      | none => none
      | some qs => some (ps ++ qs)

def tagsOf (P : Program) : Nat → TypeId → Option (List Tag)
  | 0, _ => none
  | d + 1, t =>
    match P.underlying t with
    | some .bool => some [.b]
    | some (.int k) => some [.i k]
    | some .string => some [.s]
    | some (.struct fs) => if P.stoodInHeld t then none else
      match tagsFs (tagsOf P d) fs.toList 0 with
      | none => none
      | some ps => if sizeT P t = some ps.length then some ps else none
    | some (.array n e) =>
      match tagsOf P d e with
      | none => none
      | some ps => if sizeT P t = some (n * ps.length) ∧ sizeT P e = some ps.length then some (List.replicate n ps).flatten else none
    | _ => none

theorem info_map {P : Program} {t : TypeId} {k : Nat} (h : sizeT P t = some k) : (P.info? t).map (fun i => some i.size) = some (some k) := by
  unfold sizeT at h
  cases hi : P.info? t with
  | none => simp [hi] at h
  | some i => simp [hi] at h ⊢; exact h

theorem tags_agg {P : Program} {d : Nat} {t : TypeId} {ps : List Tag} (h : tagsOf P d t = some ps) :
    (aggOf P t = some none ∧ ps.length = 1) ∨ aggOf P t = some (some ps.length) := by
  cases d with
  | zero => simp [tagsOf] at h
  | succ d =>
    unfold tagsOf at h
    unfold aggOf
    cases hu : P.underlying t with
    | none => simp [hu] at h
    | some D =>
      cases D <;> simp only [hu] at h ⊢
      case bool => cases h; left; simp
      case int => cases h; left; simp
      case string => cases h; left; simp
      case struct fs =>
        right
        split at h
        · cases h
        · split at h
          · cases h
          · split at h
            · rename_i hs; cases h; exact info_map hs
            · cases h
      case array n e =>
        right
        split at h
        · cases h
        · split at h
          · rename_i hs; cases h
            rw [info_map hs.1]; simp
          · cases h
      all_goals cases h

theorem eqPat_app : ∀ {ps qs : List Tag} {l l' : List SV} {b : Bool}, eqPat (ps ++ qs) l l' = some b →
    ∃ b1 b2, eqPat ps (l.take ps.length) (l'.take ps.length) = some b1 ∧ eqPat qs (l.drop ps.length) (l'.drop ps.length) = some b2 ∧ b = (b1 && b2)
  | [], qs, l, l', b, h => ⟨true, b, by simp [eqPat], by simpa using h, by simp⟩
  | p :: ps, qs, [], l', b, h => by simp [eqPat] at h
  | p :: ps, qs, a :: l, [], b, h => by simp [eqPat] at h
  | p :: ps, qs, a :: l, c :: l', b, h => by
    simp only [List.cons_append, eqPat] at h
    split at h
    · rename_i x y hx hy
      cases h
      obtain ⟨b1, b2, h1, h2, h3⟩ := eqPat_app hy
      refine ⟨x && b1, b2, ?_, by simpa using h2, by rw [h3, Bool.and_assoc]⟩
      simp [eqPat, hx, h1]
    · cases h

theorem eqPat_len : ∀ {ps : List Tag} {l l' : List SV} {b : Bool}, eqPat ps l l' = some b → l.length = ps.length ∧ l'.length = ps.length
  | [], [], [], _, _ => ⟨rfl, rfl⟩
  | p :: ps, a :: l, c :: l', b, h => by
    simp only [eqPat] at h
    split at h
    · rename_i x y hx hy
      obtain ⟨h1, h2⟩ := eqPat_len hy
      simp [h1, h2]
    · cases h
  | [], [], _ :: _, _, h => by simp [eqPat] at h
  | [], _ :: _, _, _, h => by simp [eqPat] at h
  | _ :: _, [], _, _, h => by simp [eqPat] at h
  | _ :: _, _ :: _, [], _, h => by simp [eqPat] at h

section
variable {P : Program} {ρ : Env}

/-- cells as a value of their type -/
def wrapV (g : Option Nat) (xs : List Value) : Value :=
  match g, xs with
  | none, [x] => x
  | _, xs => .agg xs.toArray

theorem part_wrap {t : TypeId} {g : Option Nat} (hg : aggOf P t = some g) {k : Nat} (hk : (g = none ∧ k = 1) ∨ g = some k) {xs : List Value} {o : Nat} (ho : o + k ≤ xs.length) (w : World) :
    (part t xs.toArray o).run P w = .ok (wrapV g ((xs.drop o).take k)) w := by
  rcases hk with ⟨rfl, rfl⟩ | rfl
  · have hlt : o < xs.length := by omega
    rw [run_part_cell hg (x := xs[o]) (by simp [hlt])]
    rw [List.drop_eq_getElem_cons hlt, List.take_succ_cons, List.take_zero]; rfl
  · rw [run_part_cells hg]
    simp [wrapV]

theorem isL_sub {l : List SV} {xs : List Value} (h : SV.isL ρ l xs) (o k : Nat) : SV.isL ρ ((l.drop o).take k) ((xs.drop o).take k) := isL_take k (isL_drop o h)

def EqSpec (P : Program) (ρ : Env) (d : Nat) : Prop :=
  ∀ t ps, tagsOf P d t = some ps → ∀ q l l' xs ys b (w : World), SV.isL ρ l xs → SV.isL ρ l' ys → eqPat ps l l' = some b → ∀ g, aggOf P t = some g →
    (Op.equalIn (d + q) t (wrapV g xs) (wrapV g ys)).run P w = .ok b w

theorem eqFields_run {d : Nat} (ih : EqSpec P ρ d) (q : Nat) {l l' : List SV} {xs ys : List Value} (hx : SV.isL ρ l xs) (hy : SV.isL ρ l' ys) :
    ∀ (fs : List Field) (off : Nat) (ps : List Tag) (b : Bool) (w : World), tagsFs (tagsOf P d) fs off = some ps → eqPat ps (l.drop off) (l'.drop off) = some b →
    off ≤ xs.length → off ≤ ys.length → (Op.eqFields (d + q) xs.toArray ys.toArray fs).run P w = .ok b w
  | [], off, ps, b, w, h, hb, _, _ => by
    simp only [tagsFs, Option.some.injEq] at h; subst h
    have := eqPat_len hb
    simp only [List.length_nil] at this
    have hb' : eqPat [] [] [] = some b := by
      rw [List.length_eq_zero_iff.1 this.1, List.length_eq_zero_iff.1 this.2] at hb; exact hb
    simp only [eqPat, Option.some.injEq] at hb'; subst hb'
    rfl
  | f :: fs, off, ps, b, w, h, hb, ho, ho' => by
    simp only [tagsFs] at h
    split at h
    · cases h
    · rename_i hn
      split at h
      · cases h
      · rename_i hoff
        have hoff : f.offset = off := by simpa using hoff
        split at h
        · cases h
        · rename_i ps1 h1
          split at h
          · cases h
          · rename_i qs h2
            cases h
            obtain ⟨b1, b2, e1, e2, rfl⟩ := eqPat_app hb
            have hl := eqPat_len e1
            have hlx := SV.isL_length hx
            have hly := SV.isL_length hy
            have hle : off + ps1.length ≤ xs.length := by
              have := hl.1; simp at this; omega
            have hle' : off + ps1.length ≤ ys.length := by
              have := hl.2; simp at this; omega
            obtain ⟨g, hg, hgk⟩ : ∃ g, aggOf P f.type = some g ∧ ((g = none ∧ ps1.length = 1) ∨ g = some ps1.length) := by
              rcases tags_agg h1 with ⟨r1, r2⟩ | r1
              · exact ⟨none, r1, .inl ⟨rfl, r2⟩⟩
              · exact ⟨_, r1, .inr rfl⟩
            rw [List.drop_drop, List.drop_drop] at e2
            have hrec := eqFields_run ih q hx hy fs (off + ps1.length) qs b2 w h2 e2 hle hle'
            have heq := ih f.type ps1 h1 q _ _ _ _ b1 w (isL_sub hx off ps1.length) (isL_sub hy off ps1.length) e1 g hg
            simp only [Op.eqFields]
            rw [if_pos hn, hoff]
            simp only [Sem.run_bind, part_wrap hg hgk hle, part_wrap hg hgk hle', Result.andThen_ok, heq, Sem.run_ite]
            cases b1
            · simp
            · simpa using hrec

theorem flat_cons (n : Nat) (ps : List Tag) : (List.replicate (n + 1) ps).flatten = ps ++ (List.replicate n ps).flatten := by
  rw [List.replicate_succ, List.flatten_cons]

theorem eqArr_run {d : Nat} (ih : EqSpec P ρ d) (q : Nat) {e : TypeId} {ps : List Tag} (h1 : tagsOf P d e = some ps) {g : Option Nat} (hg : aggOf P e = some g)
    (hgk : (g = none ∧ ps.length = 1) ∨ g = some ps.length) {l l' : List SV} {xs ys : List Value} (hx : SV.isL ρ l xs) (hy : SV.isL ρ l' ys) :
    ∀ (n i : Nat) (b : Bool) (w : World), eqPat (List.replicate n ps).flatten (l.drop (i * ps.length)) (l'.drop (i * ps.length)) = some b →
    (i + n) * ps.length ≤ xs.length → (i + n) * ps.length ≤ ys.length →
    ((do
      let r ← forIn (List.range' i n) ((none : Option Bool), ()) fun i _ => do
        let a ← part e xs.toArray (i * ps.length)
        let c ← part e ys.toArray (i * ps.length)
        let v ← Op.equalIn (d + q) e a c
        if (!v) = true then pure (ForInStep.done (some false, ())) else pure (ForInStep.yield (none, ()))
      match r.1 with
      | some a => pure a
      | none => pure true : Sem Bool)).run P w = .ok b w
  | 0, i, b, w, hb, _, _ => by
    have := eqPat_len hb
    simp only [List.replicate_zero, List.flatten_nil, List.length_nil] at this hb
    rw [List.length_eq_zero_iff.1 this.1, List.length_eq_zero_iff.1 this.2] at hb
    simp only [eqPat, Option.some.injEq] at hb; subst hb
    rfl
  | n + 1, i, b, w, hb, ho, ho' => by
    rw [flat_cons] at hb
    obtain ⟨b1, b2, e1, e2, rfl⟩ := eqPat_app hb
    have hs : (i + (n + 1)) * ps.length = i * ps.length + ps.length + n * ps.length := by
      rw [Nat.add_mul, Nat.add_mul]; omega
    have hle : i * ps.length + ps.length ≤ xs.length := by omega
    have hle' : i * ps.length + ps.length ≤ ys.length := by omega
    rw [List.drop_drop, List.drop_drop, show i * ps.length + ps.length = (i + 1) * ps.length by rw [Nat.add_mul]; omega] at e2
    have hrec := eqArr_run ih q h1 hg hgk hx hy n (i + 1) b2 w e2 (by rw [show i + 1 + n = i + (n + 1) by omega]; exact ho) (by rw [show i + 1 + n = i + (n + 1) by omega]; exact ho')
    have heq := ih e ps h1 q _ _ _ _ b1 w (isL_sub hx (i * ps.length) ps.length) (isL_sub hy (i * ps.length) ps.length) e1 g hg
    rw [List.range'_succ, List.forIn_cons]
    simp only [Sem.run_bind, part_wrap hg hgk hle, part_wrap hg hgk hle', Result.andThen_ok, heq, Sem.run_ite]
    cases b1
    · simp
    · simp only [Bool.not_true, Bool.false_eq_true, if_false, Sem.run_pure, Result.andThen_ok]
      simp only [Sem.run_bind] at hrec
      simpa using hrec

theorem eq_run : ∀ d, EqSpec P ρ d
  | 0 => by intro t ps h; simp [tagsOf] at h
  | d + 1 => by
    have ih := eq_run d
    intro t ps h q l l' xs ys b w hx hy hb g hg
    unfold tagsOf at h
    cases hu : P.underlying t with
    | none => simp [hu] at h
    | some D =>
      have hl := eqPat_len hb
      have hlx := SV.isL_length hx
      have hly := SV.isL_length hy
      rw [show d + 1 + q = d + q + 1 by omega]
      cases D <;> simp only [hu] at h
      case bool =>
        cases h
        have hgn : g = none := by unfold aggOf at hg; simpa [hu] using hg.symm
        subst hgn
        obtain ⟨a, rfl⟩ := List.length_eq_one_iff.1 hl.1
        obtain ⟨c, rfl⟩ := List.length_eq_one_iff.1 hl.2
        simp only [SV.isL] at hx hy
        obtain ⟨x, _, rfl, hx, rfl⟩ := hx
        obtain ⟨y, _, rfl, hy, rfl⟩ := hy
        simp only [wrapV]
        cases a <;> cases c <;> simp only [eqPat, eqTag] at hb <;> simp at hb
        subst hb
        simp only [SV.is] at hx hy; subst hx; subst hy
        exact run_equalIn_bool w _ t _ _ hu
      case int k =>
        cases h
        have hgn : g = none := by unfold aggOf at hg; simpa [hu] using hg.symm
        subst hgn
        obtain ⟨a, rfl⟩ := List.length_eq_one_iff.1 hl.1
        obtain ⟨c, rfl⟩ := List.length_eq_one_iff.1 hl.2
        simp only [SV.isL] at hx hy
        obtain ⟨x, _, rfl, hx, rfl⟩ := hx
        obtain ⟨y, _, rfl, hy, rfl⟩ := hy
        simp only [wrapV]
        cases a <;> cases c <;> simp only [eqPat, eqTag] at hb <;> (try simp at hb)
        rename_i k1 a1 k2 a2
        by_cases hk : k1 = k ∧ k2 = k
        · rw [if_pos hk] at hb; simp at hb
          subst hb
          simp only [SV.is] at hx hy; subst hx; subst hy
          rw [hk.1, hk.2]
          exact run_equalIn_int w _ t _ _ _ _ hu
        · rw [if_neg hk] at hb; simp at hb
      case string =>
        cases h
        have hgn : g = none := by unfold aggOf at hg; simpa [hu] using hg.symm
        subst hgn
        obtain ⟨a, rfl⟩ := List.length_eq_one_iff.1 hl.1
        obtain ⟨c, rfl⟩ := List.length_eq_one_iff.1 hl.2
        simp only [SV.isL] at hx hy
        obtain ⟨x, _, rfl, hx, rfl⟩ := hx
        obtain ⟨y, _, rfl, hy, rfl⟩ := hy
        simp only [wrapV]
        cases a <;> cases c <;> simp only [eqPat, eqTag] at hb <;> simp at hb
        subst hb
        simp only [SV.is] at hx hy; subst hx; subst hy
        rw [run_equalIn_string w _ t _ _ hu]; simp
      case struct fs =>
        split at h
        · cases h
        · rename_i hst
          split at h
          · cases h
          · rename_i ps' hps
            split at h
            · rename_i hsz
              cases h
              have hgs : g = some ps.length := by
                unfold aggOf at hg; rw [hu] at hg
                simp only [info_map hsz, Option.some.injEq] at hg; exact hg.symm
              subst hgs
              have hf : P.fieldsOf t = fs := by unfold Program.fieldsOf; rw [hu]
              have hw : ∀ zs : List Value, wrapV (some ps.length) zs = .agg zs.toArray := fun zs => by unfold wrapV; rfl
              rw [hw, hw, run_equalIn_struct w (d + q) t xs.toArray ys.toArray (by rw [hf]; exact hu) (by simpa using hst), hf]
              exact eqFields_run ih q hx hy fs.toList 0 ps b w hps (by simpa using hb) (by omega) (by omega)
            · cases h
      case array n e =>
        split at h
        · cases h
        · rename_i ps' hps
          split at h
          · rename_i hsz
            cases h
            have hgs : g = some (n * ps'.length) := by
              unfold aggOf at hg; rw [hu] at hg
              simp only [info_map hsz.1, Option.some.injEq] at hg; exact hg.symm
            subst hgs
            have hw : ∀ zs : List Value, wrapV (some (n * ps'.length)) zs = .agg zs.toArray := fun zs => by unfold wrapV; rfl
            rw [hw, hw]
            obtain ⟨g', hg', hgk⟩ : ∃ g, aggOf P e = some g ∧ ((g = none ∧ ps'.length = 1) ∨ g = some ps'.length) := by
              rcases tags_agg hps with ⟨r1, r2⟩ | r1
              · exact ⟨none, r1, .inl ⟨rfl, r2⟩⟩
              · exact ⟨_, r1, .inr rfl⟩
            have hlen : (List.replicate n ps').flatten.length = n * ps'.length := by simp
            have key := eqArr_run ih q hps hg' hgk hx hy n 0 b w (by simpa using hb) (by rw [Nat.zero_add]; omega) (by rw [Nat.zero_add]; omega)
            simp only [Op.equalIn, Sem.run_bind, run_und hu, Result.andThen_ok, run_sizeOf_of hsz.2]
            simp only [Sem.run_bind] at key
            rw [Std.Legacy.Range.forIn_eq_forIn_range']
            simp only [Std.Legacy.Range.size, Nat.sub_zero, Nat.add_sub_cancel, Nat.div_one]
            refine Eq.trans ?_ key
            congr 1
            funext a w'
            rcases a with ⟨_ | _, _⟩ <;> rfl
          · cases h
      all_goals cases h

end

section
variable {C : Ctx} {N : Nat} {ρ : Env} {fr : Fr} {m : Mem} {n : Nat} {a : Act} {w : World} {K : Kt} {T : List (Nat × List SV)} {call : CallT}

theorem eqv_op (R : Rel C N ρ fr m n a w) {t : TypeId} {neg : Bool} {pat : List Tag} {o o' : Operand} {x y : Opd} (h1 : opdOk o x = true) (h2 : opdOk o' y = true)
    {d k : Nat} (hd : d ≤ 10000) (hp : tagsOf C.P d t = some pat) (hgt : C.P.eqGuardType C.P.depth t = false) (hag : aggOf C.P t = some (some k))
    (hk : exO T call fr m n K (.eqv neg pat x y)) :
    ∃ z, (do eqGuard (if neg then .neq else .eql) t o o' (a.eval o) (a.eval o'); binOp (if neg then .neq else .eql) t (a.eval o) (a.eval o') : Sem Value).run C.P w = .ok z w ∧ Out C ρ K z w := by
  have hv := ev_is R h1
  have hv' := ev_is R h2
  simp only [exO] at hk
  split at hk
  · rename_i l l' he he'
    rw [he] at hv; rw [he'] at hv'
    obtain ⟨xs, e1, e2, e3⟩ := by simpa only [SV.is] using hv
    obtain ⟨ys, f1, f2, f3⟩ := by simpa only [SV.is] using hv'
    obtain ⟨b, hb, hK⟩ := hk
    have hr := eq_run (P := C.P) (ρ := ρ) d t pat hp (10000 - d) l l' xs ys b w e1 f1 hb (some k) hag
    rw [show d + (10000 - d) = 10000 by omega] at hr
    have hw : ∀ zs : List Value, wrapV (some k) zs = .agg zs.toArray := fun zs => by unfold wrapV; rfl
    rw [hw, hw] at hr
    rw [e3, f3]
    refine ⟨.bool (if neg then !b else b), ?_, out_pure R hK (by simp only [SV.is])⟩
    cases neg
    · simp only [Bool.false_eq_true, if_false, Sem.run_bind, run_eqGuard_agg w .eql t o o' _ _ hgt, Result.andThen_ok, run_eql_struct, hr]
    · simp only [if_true, Sem.run_bind, run_eqGuard_agg w .neq t o o' _ _ hgt, Result.andThen_ok, run_neq_struct, hr]
  · exact hk.elim

theorem eqb_op (R : Rel C N ρ fr m n a w) {t : TypeId} {neg : Bool} {o o' : Operand} {x y : Opd} (h1 : opdOk o x = true) (h2 : opdOk o' y = true)
    (ht : C.P.underlying t = some .bool) (hk : exO T call fr m n K (.eqb neg x y)) :
    ∃ z, (do eqGuard (if neg then .neq else .eql) t o o' (a.eval o) (a.eval o'); binOp (if neg then .neq else .eql) t (a.eval o) (a.eval o') : Sem Value).run C.P w = .ok z w ∧ Out C ρ K z w := by
  have hv := ev_is R h1
  have hv' := ev_is R h2
  simp only [exO] at hk
  split at hk
  · rename_i p q he he'
    rw [he] at hv; rw [he'] at hv'
    have e1 := by simpa only [SV.is] using hv
    have e2 := by simpa only [SV.is] using hv'
    rw [e1, e2]
    refine ⟨.bool (if neg then !(p == q) else p == q), ?_, out_pure R hk (by simp only [SV.is])⟩
    have hr : (Op.equal t (.bool p) (.bool q)).run C.P w = .ok (p == q) w := run_equalIn_bool w 9999 t p q ht
    cases neg
    · simp [eqGuard_run, binOp, hr]
    · simp [eqGuard_run, binOp, hr]
  · exact hk.elim

theorem isNil_op (R : Rel C N ρ fr m n a w) {t e : TypeId} {neg : Bool} {o o' : Operand} {x : Opd} (h1 : opdOk o x = true) (h2 : a.eval o' = .slice none 0 0)
    (ht : C.P.underlying t = some (.slice e)) (hk : exO T call fr m n K (.isNil neg x)) :
    ∃ z, (do eqGuard (if neg then .neq else .eql) t o o' (a.eval o) (a.eval o'); binOp (if neg then .neq else .eql) t (a.eval o) (a.eval o') : Sem Value).run C.P w = .ok z w ∧ Out C ρ K z w := by
  have hv := ev_is R h1
  simp only [exO] at hk
  have hq : ∀ A l c, (Op.equal t (.slice A l c) (.slice none 0 0)).run C.P w = .ok A.isNone w := fun A l c => by
    have hq' : ∀ d, (Op.equalIn (d + 1) t (.slice A l c) (.slice none 0 0)).run C.P w = .ok A.isNone w := fun d => by
      cases A <;> simp [Op.equalIn, run_und ht]
    exact hq' 9999
  split at hk
  · rename_i he
    rw [he] at hv
    have e1 := by simpa only [SV.is] using hv
    rw [e1, h2]
    refine ⟨.bool (!neg), ?_, out_pure R hk (by simp only [SV.is])⟩
    cases neg
    · simp [eqGuard_run, binOp, hq]
    · simp [eqGuard_run, binOp, hq]
  · rename_i b off s len cap he
    rw [he] at hv
    obtain ⟨⟨B, hB, hlt⟩, hK⟩ := hk
    obtain ⟨L, A, e1, e2, e3⟩ := by simpa only [SV.is] using hv
    obtain ⟨L', b', f1, f2⟩ := blk_some R.mem hB hlt
    rw [e1] at f1; cases f1
    have hA : A.isNone = false := by
      rcases e3 with e3 | e3
      · rw [e3, f2]; rfl
      · cases A with
        | none => rw [e3.2.2.1 rfl] at f2; cases f2
        | some A => rfl
    rw [e2, h2]
    refine ⟨.bool neg, ?_, out_pure R hK (by simp only [SV.is])⟩
    cases neg
    · simp [eqGuard_run, binOp, hq, hA]
    · simp [eqGuard_run, binOp, hq, hA]
  · exact hk.elim
end
end Go.Sx
