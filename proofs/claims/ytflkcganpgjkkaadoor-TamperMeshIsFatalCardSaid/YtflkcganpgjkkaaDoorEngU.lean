/- The engine, part U: whole functions. -/
import Derived.Test.YtflkcganpgjkkaaDoorEngT
namespace Go.Sx
open Go
set_option linter.unusedSimpArgs false
set_option linter.unusedVariables false

inductive RV where
  | t (d : Nat)
  | c (d : Nat) (g : Option Nat)

/-- what a function answers -/
def exRes (T : List (Nat × List SV)) (fr : Fr) : List RV → Mem → Nat → (List SV → Mem → Nat → Prop) → Prop
  | [], m, n, K => K [] m n
  | .t d :: r, m, n, K => exRes T fr r m n fun l m n => K (get fr d :: l) m n
  | .c d g :: r, m, n, K => exO T (fun _ _ _ _ _ => False) fr m n (fun v m n => exRes T fr r m n fun l m n => K (v :: l) m n) (.load g (.t d))

def retOf : List SV → SV
  | [v] => v
  | l => .tup l

structure SF where
  n : Nat
  res : List RV
  body : SC

def resOk (P : Program) : List ResultVar → List RV → Bool
  | [], [] => true
  | .tmp t :: r, .t d :: q => t == d && resOk P r q
  | .cell a t :: r, .c d g :: q => a == d && aggOf P t == some g && resOk P r q
  | _, _ => false

def chkF (P : Program) (f : FuncId) (sf : SF) : Bool :=
  funcOk P f && match P.funcs[f]? with
  | some fn => fn.ntmps == sf.n && resOk P fn.results.toList sf.res && match fn.body with
    | some c => chkC P sf.n c sf.body
    | none => false
  | none => false

def frOf : Nat → List SV → Fr
  | _, [] => []
  | i, v :: r => (i, v) :: frOf (i + 1) r

theorem frOf_mem : ∀ {l : List SV} {i d : Nat} {v : SV}, (d, v) ∈ frOf i l → i ≤ d ∧ l[d - i]? = some v
  | a :: l, i, d, v, h => by
    unfold frOf at h
    rcases List.mem_cons.1 h with h | h
    · cases h; simp
    · obtain ⟨h1, h2⟩ := frOf_mem h
      refine ⟨by omega, ?_⟩
      rw [show d - i = (d - (i + 1)) + 1 by omega]; simpa using h2

section
variable {C : Ctx} {N : Nat} {ρ : Env} {fr : Fr} {m : Mem} {n : Nat} {a : Act} {w : World}

theorem get_is (R : Rel C N ρ fr m n a w) (d : Nat) : (get fr d).is ρ (a.tmps.getD d undef) := by
  have := ev_is (x := .t d) (o := .tmp d) R (by simp [opdOk])
  simpa [Opd.ev, Act.eval] using this

def readRes (tmps : Array Value) : ResultVar → Sem Value
  | .tmp t => pure (tmps.getD t undef)
  | .cell a t => do loadVar t (← asAddr (tmps.getD a undef))

theorem res_run {a : Act} {w : World} : ∀ (l : List ResultVar) (q : List RV) (ρ : Env) (m : Mem) (n : Nat) (K : List SV → Mem → Nat → Prop), CtxOk C → Rel C N ρ fr m n a w →
    resOk C.P l q = true → exRes C.T fr q m n K →
    ∃ ρ' vs xs m' n', K vs m' n' ∧ ρ.le ρ' ∧ SV.isL ρ' vs xs ∧ (l.mapM (readRes a.tmps)).run C.P w = .ok xs w ∧ MemOk C ρ' m' n' w
  | [], q, ρ, m, n, K, X, R, h, hk => by
    cases q <;> simp only [resOk] at h <;> first | cases h | skip
    exact ⟨ρ, [], [], m, n, hk, Env.le_refl _, by simp [SV.isL], by simp, R.mem⟩
  | .tmp t :: l, q, ρ, m, n, K, X, R, h, hk => by
    cases q with
    | nil => simp [resOk] at h
    | cons q0 q =>
    cases q0 <;> simp [resOk] at h
    obtain ⟨rfl, h⟩ := h
    simp only [exRes] at hk
    obtain ⟨ρ', vs, xs, m', n', h1, h2, h3, h4, h5⟩ := res_run l q ρ m n _ X R h hk
    refine ⟨ρ', _, a.tmps.getD t undef :: xs, m', n', h1, h2, ?_, ?_, h5⟩
    · simp only [SV.isL]; exact ⟨_, _, rfl, SV.is_mono h2 _ _ (get_is R t), h3⟩
    · simp only [List.mapM_cons, Sem.run_bind, Sem.run_pure, Result.andThen_ok, readRes]
      rw [h4]; rfl
  | .cell b t :: l, q, ρ, m, n, K, X, R, h, hk => by
    cases q with
    | nil => simp [resOk] at h
    | cons q0 q =>
    cases q0 <;> simp [resOk] at h
    obtain ⟨⟨rfl, hg⟩, h⟩ := h
    simp only [exRes] at hk
    obtain ⟨y, g1, ρ1, v, m1, n1, hle, hk', hv, hm, hn⟩ := load_ok X R (o := .tmp b) (x := .t b) (by simp [opdOk]) hg rfl hk
    have R1 : Rel C N ρ1 fr m1 n1 a w := ⟨fun d v h => let ⟨x, e1, e2⟩ := R.fr d v h; ⟨x, e1, SV.is_mono hle v x e2⟩, hm, R.defers, R.size, hn⟩
    obtain ⟨ρ', vs, xs, m', n', h1, h2, h3, h4, h5⟩ := res_run l q ρ1 m1 n1 _ X R1 h hk'
    refine ⟨ρ', v :: vs, y :: xs, m', n', h1, Env.le_trans hle h2, ?_, ?_, h5⟩
    · simp only [SV.isL]; exact ⟨_, _, rfl, SV.is_mono h2 _ _ hv, h3⟩
    · have : (readRes a.tmps (.cell b t)).run C.P w = .ok y w := by
        have e1 : a.eval (.tmp b) = a.tmps.getD b undef := rfl
        rw [e1] at g1
        show (do loadVar t (← asAddr (a.tmps.getD b undef)) : Sem Value).run C.P w = _
        generalize a.tmps.getD b undef = z at g1 ⊢
        cases z
        case pointer A => cases A with
          | none => simp [Instr.loadAt, Instr.sureAddr] at g1
          | some A => simpa [Instr.loadAt, Instr.sureAddr, asAddr] using g1
        all_goals simp [Instr.loadAt, Instr.sureAddr] at g1
      simp only [List.mapM_cons, Sem.run_bind, this, Result.andThen_ok]
      rw [h4]; rfl

def valOf : List Value → Value
  | [x] => x
  | l => .tuple l.toArray

theorem results_run {fn : Func} {tmps : Array Value} {w : World} {xs : List Value} (h : (fn.results.toList.mapM (readRes tmps)).run C.P w = .ok xs w) :
    (results fn tmps).run C.P w = .ok (valOf xs) w := by
  have e : results fn tmps = (do
      let vs ← fn.results.mapM (readRes tmps)
      pure (if h : vs.size = 1 then vs[0] else .tuple vs)) := rfl
  have hm : (fn.results.mapM (readRes tmps)).run C.P w = .ok xs.toArray w := by
    rw [Array.mapM_eq_mapM_toList, Sem.run_map]
    rw [h]; rfl
  rw [e]
  simp only [Sem.run_bind, hm, Result.andThen_ok, Sem.run_pure]
  congr 1
  match xs with
  | [] => rfl
  | [x] => rfl
  | x :: y :: r => simp [valOf]

theorem retOf_is {ρ : Env} {vs : List SV} {xs : List Value} (h : SV.isL ρ vs xs) : (retOf vs).is ρ (valOf xs) := by
  have hl := SV.isL_length h
  match vs, xs with
  | [], [] => simp only [retOf, SV.is]; exact ⟨_, h, rfl⟩
  | [v], [x] =>
    simp only [SV.isL] at h
    obtain ⟨y, ys, e, h1, h2⟩ := h
    cases e; exact h1
  | v :: v' :: r, x :: x' :: r' => simp only [retOf, SV.is]; exact ⟨_, h, rfl⟩
  | [], x :: r => simp at hl
  | [v], [] => simp at hl
  | [v], x :: x' :: r => simp at hl
  | v :: v' :: r, [] => simp at hl
  | v :: v' :: r, [x] => simp at hl
end

/-- what a body has to show -/
def fin (T : List (Nat × List SV)) (n0 : Nat) (res : List RV) (r : SV) (m' : Mem) (n' : Nat) : Post := fun e fr m n =>
  match e with
  | .exit _ => False
  | _ => exRes T fr res m n fun l m1 n1 => ∃ hs, EntM n0 m1 n1 hs m' n' ∧ retOf l = r.ren (eta hs n1)

theorem fun_of_exec {P : Program} {T : List (Nat × List SV)} {f : FuncId} {sf : SF} {args : List SV} {m0 : Mem} {n0 : Nat} {r : SV} {m' : Mem} {n' : Nat}
    (hc : chkF P f sf = true) (hlen : args.length ≤ sf.n) (hn : n0 ≤ n')
    (h : exC T (callT P T) n0 sf.body (frOf 0 args) m0 n0 (fin T n0 sf.res r m' n')) : Fun P T f args m0 n0 r m' n' := by
  simp only [chkF, Bool.and_eq_true] at hc
  obtain ⟨hok, hc⟩ := hc
  refine ⟨hok, hn, ?_⟩
  intro ρ w vals R X hv
  split at hc
  rotate_left
  · cases hc
  rename_i fn hfn
  simp only [Bool.and_eq_true, beq_iff_eq] at hc
  obtain ⟨⟨hN, hres⟩, hc⟩ := hc
  split at hc
  rotate_left
  · cases hc
  rename_i c hbody
  have hl := SV.isL_length hv
  have R0 : Rel (ctxOf P T ρ m0 n0 w) sf.n ρ (frOf 0 args) m0 n0 { tmps := vals.toArray ++ Array.replicate (fn.ntmps - vals.toArray.size) undef, defers := [] } w := by
    constructor
    · intro d v hd
      obtain ⟨_, h2⟩ := frOf_mem hd
      obtain ⟨x, h3, h4⟩ := SV.isL_get hv d v (by simpa using h2)
      refine ⟨x, ?_, h4⟩
      have hlt : d < vals.length := by
        rcases Nat.lt_or_ge d vals.length with q | q
        · exact q
        · rw [List.getElem?_eq_none q] at h3; cases h3
      rw [Array.getElem?_append_left (by simpa using hlt)]
      simpa using h3
    · exact R
    · rfl
    · simp; omega
    · exact Nat.le_refl _
  have key := code_ok (C := ctxOf P T ρ m0 n0 w) X c sf.body _ _ _ ρ _ w _ hc h R0
  refine calls_of_wp hfn hbody (wp_mono key ?_)
  have done : ∀ ρ1 fr m1 n1 a1 w1, exRes T fr sf.res m1 n1 (fun l m1 n1 => ∃ hs, EntM n0 m1 n1 hs m' n' ∧ retOf l = r.ren (eta hs n1)) → Rel (ctxOf P T ρ m0 n0 w) sf.n ρ1 fr m1 n1 a1 w1 →
      a1.defers = [] ∧ ∃ v, (results fn a1.tmps).run P w1 = .ok v w1 ∧ ∃ x ρ', Ending.returned v = .returned x ∧ ρ.le ρ' ∧ r.is ρ' x ∧ MemOk (ctxOf P T ρ m0 n0 w) ρ' m' n' w1 := by
    intro ρ1 fr m1 n1 a1 w1 h1 R1
    obtain ⟨ρ2, vs, xs, m2, n2, ⟨hs, hE, hr⟩, g2, g3, g4, g5⟩ := res_run _ _ _ _ _ _ X R1 hres h1
    refine ⟨R1.defers, _, results_run (C := ctxOf P T ρ m0 n0 w) g4, _, _, rfl, ?_, ?_, g5.ent hE⟩
    · intro i L hL
      have hi : i < n0 := by
        rcases Nat.lt_or_ge i n0 with q | q
        · exact q
        · rw [R.fresh i q] at hL; cases hL
      have := (g5.ent hE).keep i hi
      rw [this]; exact hL
    · exact (SV.is_ren _ _).1 (by rw [← hr]; exact retOf_is g3)
  intro e a1 w1 hq
  cases e with
  | normal =>
    obtain ⟨ρ1, fr, m1, n1, h1, R1⟩ := hq
    exact done ρ1 fr m1 n1 a1 w1 h1 R1
  | ret =>
    obtain ⟨ρ1, fr, m1, n1, h1, R1⟩ := hq
    exact done ρ1 fr m1 n1 a1 w1 h1 R1
  | exit id =>
    obtain ⟨ρ1, fr, m1, n1, h1, R1⟩ := hq
    exact h1.elim
  | goto l => exact hq.elim
  | panic ch => exact hq.elim
  | outgrown => exact hq.elim
end Go.Sx
