/- The engine, part T: code, loops, functions. -/
import Derived.Test.YtflkcganpgjkkaaDoorEngP
namespace Go.Sx
open Go
set_option linter.unusedSimpArgs false
set_option linter.unusedVariables false

def geto : Fr → Nat → Option SV
  | [], _ => none
  | (e, v) :: r, d => if e = d then some v else geto r d

theorem geto_mem {fr : Fr} {d : Nat} {v : SV} (h : geto fr d = some v) : (d, v) ∈ fr := by
  induction fr with
  | nil => simp [geto] at h
  | cons y r ih =>
    obtain ⟨e, u⟩ := y
    unfold geto at h
    split at h
    · rename_i he; subst he; cases h; exact List.mem_cons_self
    · exact List.mem_cons_of_mem _ (ih h)

def frEnt (η : Nat → Nat × Nat) (fr : Fr) : Fr → Prop
  | [] => True
  | (d, v) :: r => geto fr d = some (v.ren η) ∧ frEnt η fr r

theorem frEnt_get {η : Nat → Nat × Nat} {fr : Fr} : ∀ {fr' : Fr}, frEnt η fr fr' → ∀ d v, (d, v) ∈ fr' → geto fr d = some (v.ren η)
  | (e, u) :: r, h, d, v, hm => by
    simp only [frEnt] at h
    rcases List.mem_cons.1 hm with e1 | e1
    · cases e1; exact h.1
    · exact frEnt_get h.2 d v e1

/-- the first k blocks keep their names -/
def idHs : Nat → List (Nat × Nat)
  | 0 => []
  | k + 1 => idHs k ++ [(k, 0)]
theorem idHs_get : ∀ {k i : Nat}, i < k → (idHs k)[i]? = some (i, 0)
  | k + 1, i, h => by
    have hl : ∀ k, (idHs k).length = k := fun k => by induction k with | zero => rfl | succ k ih => simp [idHs, ih]
    unfold idHs
    by_cases hik : i < k
    · rw [List.getElem?_append_left (by rw [hl]; exact hik)]; exact idHs_get hik
    · have : i = k := by omega
      subst this
      rw [List.getElem?_append_right (by rw [hl]; omega), hl]; simp

/-- a description that says less, its blocks named anew -/
def EntM (n0 : Nat) (m : Mem) (n : Nat) (hs : List (Nat × Nat)) (m' : Mem) (n' : Nat) : Prop :=
  hs.length = n' ∧ n0 ≤ n' ∧ hs.take n0 = idHs n0 ∧ compat (eta hs n) m m' ∧ apartM (eta hs n) m' ∧ keysBelow n' m'

def Ent (n0 : Nat) (fr : Fr) (m : Mem) (n : Nat) (fr' : Fr) (m' : Mem) (n' : Nat) : Prop :=
  ∃ hs, EntM n0 m n hs m' n' ∧ frEnt (eta hs n) fr fr'

section
variable {C : Ctx} {N : Nat} {ρ : Env} {m m' : Mem} {n n' : Nat} {w : World} {a : Act} {fr fr' : Fr} {hs : List (Nat × Nat)}

theorem MemOk.ent (R : MemOk C ρ m n w) (h : EntM C.n0 m n hs m' n') : MemOk C (ρ.via (eta hs n)) m' n' w := by
  obtain ⟨rfl, h2, h3, hc, ha, hk⟩ := h
  have R1 := callee_mem R hc ha hk
  constructor
  · exact R1.blk
  · exact R1.apart
  · exact R1.fresh
  · intro i B0 L b hi ho hL hb
    obtain ⟨t, Bt, e, Lt, q1, q2, q3, q4, q5⟩ := owns_target R hc ⟨i, B0, L, hi, ho, hL, hb⟩
    exact R.wrt t Bt Lt b q2 ⟨e, q3⟩ q4 q5
  · exact R.size
  · exact R.frame
  · intro i hi
    have : hs[i]? = some (i, 0) := by
      have h4 : (hs.take C.n0)[i]? = hs[i]? := List.getElem?_take_of_lt hi
      rw [← h4, h3]; exact idHs_get hi
    unfold Env.via eta
    rw [this]
    simp only [Option.getD_some]
    rw [R.keep i hi]
    cases C.ρ0 i <;> rfl
  · exact R.side

theorem Rel.ent (R : Rel C N ρ fr m n a w) (h : Ent C.n0 fr m n fr' m' n') : ∃ ρ', Rel C N ρ' fr' m' n' a w := by
  obtain ⟨hs, hm, hf⟩ := h
  refine ⟨ρ.via (eta hs n), ⟨fun d v hd => ?_, R.mem.ent hm, R.defers, R.size, hm.2.1⟩⟩
  have := frEnt_get hf d v hd
  obtain ⟨x, e1, e2⟩ := R.fr d _ (geto_mem this)
  exact ⟨x, e1, (SV.is_ren v x).1 e2⟩
end

def seqQ (K : Fr → Mem → Nat → Prop) (Q : Post) : Post := fun e fr m n =>
  match e with
  | .normal => K fr m n
  | e => Q e fr m n
def blkQ (id : Nat) (Q : Post) : Post := fun e fr m n =>
  match e with
  | .exit j => if j = id then Q .normal fr m n else Q (.exit j) fr m n
  | e => Q e fr m n

def loopN (n0 : Nat) (body : Fr → Mem → Nat → Post → Prop) (Q : Post) : Nat → Fr → Mem → Nat → Prop
  | 0, _, _, _ => False
  | k + 1, fr, m, n => body fr m n (seqQ (loopN n0 body Q k) Q) ∨ ∃ fr1 m1 n1, Ent n0 fr m n fr1 m1 n1 ∧ body fr1 m1 n1 (seqQ (loopN n0 body Q k) Q)

def exC (T : List (Nat × List SV)) (call : CallT) (n0 : Nat) : SC → Fr → Mem → Nat → Post → Prop
  | .skip, fr, m, n, Q => Q .normal fr m n
  | .reg ops, fr, m, n, Q => exR T call ops fr m n fun fr' m' n' => Q .normal fr' m' n'
  | .regD k ops, fr, m, n, Q => exA T call fr m (ops.take k) [] n fun done n' =>
      exR T call (ops.drop k) (dels (frD done.reverse fr) (kills (ops.take k))) (memD done.reverse m) n' fun fr' m' n' => Q .normal fr' m' n'
  | .regP _ ops, fr, m, n, Q => exR T call ops fr m n fun fr' m' n' => Q .normal fr' m' n'
  | .regW k ops, fr, m, n, Q => exW T call fr m (ops.take k) [] n fun done n' =>
      exR T call (ops.drop k) (dels (frD (baseD done).reverse fr) (kills (ops.take k))) (updsW done (memD (baseD done).reverse m)) n' fun fr' m' n' => Q .normal fr' m' n'
  | .bad, _, _, _, _ => False
  | .seq a b, fr, m, n, Q => exC T call n0 a fr m n (seqQ (fun fr' m' n' => exC T call n0 b fr' m' n' Q) Q)
  | .cond x a b, fr, m, n, Q => onBool (x.ev fr) fun t => (t = true → exC T call n0 a fr m n Q) ∧ (t = false → exC T call n0 b fr m n Q)
  | .block id c, fr, m, n, Q => exC T call n0 c fr m n (blkQ id Q)
  | .loop c, fr, m, n, Q => ∃ k, loopN n0 (exC T call n0 c) Q k fr m n
  | .exit id, fr, m, n, Q => Q (.exit id) fr m n
  | .ret, fr, m, n, Q => Q .ret fr m n

/- monotony -/
theorem exR_mono {T : List (Nat × List SV)} {call : CallT} (hc : PointC call) : ∀ {qs : List Opr} {fr : Fr} {m : Mem} {n : Nat} {K K' : Fr → Mem → Nat → Prop},
    exR T call qs fr m n K → (∀ fr m n, K fr m n → K' fr m n) → exR T call qs fr m n K'
  | [], fr, m, n, K, K', h, hK => hK _ _ _ h
  | q :: qs, fr, m, n, K, K', h, hK => by
    simp only [exR] at h ⊢
    cases hg : q.guard with
    | none =>
      simp only [hg] at h ⊢
      exact exO_mono hc h fun v m n h => exR_mono hc h hK
    | some gb =>
      obtain ⟨g, b⟩ := gb
      simp only [hg] at h ⊢
      cases hv : get fr g <;> simp only [hv] at h ⊢
      case bool t => exact ⟨fun e => exO_mono hc (h.1 e) fun v m n h => exR_mono hc h hK, fun e => exR_mono hc (h.2 e) hK⟩
      case val v =>
        cases v <;> simp only at h ⊢
        exact exR_mono hc h hK

theorem exA_mono {T : List (Nat × List SV)} {call : CallT} (hc : PointC call) {fr : Fr} {m : Mem} : ∀ {qs : List Opr} {done : List Dn} {n : Nat} {K K' : List Dn → Nat → Prop},
    exA T call fr m qs done n K → (∀ d n, K d n → K' d n) → exA T call fr m qs done n K'
  | [], done, n, K, K', h, hK => hK _ _ h
  | q :: qs, done, n, K, K', h, hK => by
    simp only [exA] at h ⊢
    cases hg : q.guard with
    | none =>
      simp only [hg] at h ⊢
      exact exO_mono hc h fun v m n h => ⟨h.1, exA_mono hc h.2 hK⟩
    | some gb =>
      obtain ⟨g, b⟩ := gb
      simp only [hg] at h ⊢
      cases hv : get (frD (pickD done q.pre) (dels fr q.hide)) g <;> simp only [hv] at h ⊢
      case bool t => exact ⟨fun e => exO_mono hc (h.1 e) fun v m n h => ⟨h.1, exA_mono hc h.2 hK⟩, fun e => exA_mono hc (h.2 e) hK⟩
      case val v =>
        cases v <;> simp only at h ⊢
        exact exA_mono hc h hK

theorem exW_mono {T : List (Nat × List SV)} {call : CallT} (hc : PointC call) {fr : Fr} {m : Mem} : ∀ {qs : List Opr} {done : List DW} {n : Nat} {K K' : List DW → Nat → Prop},
    exW T call fr m qs done n K → (∀ d n, K d n → K' d n) → exW T call fr m qs done n K'
  | [], done, n, K, K', h, hK => hK _ _ h
  | q :: qs, done, n, K, K', h, hK => by
    unfold exW at h ⊢
    simp only at h ⊢
    split at h
    · refine ⟨h.1, ?_⟩
      have h := h.2
      split at h
      · obtain ⟨e, cells, l, h1, h2, h3, h4, h5, h6, h7⟩ := h
        exact ⟨e, cells, l, h1, h2, h3, h4, h5, h6, exW_mono hc h7 hK⟩
      · exact h.elim
    · refine ⟨h.1, ?_⟩
      have h := h.2
      cases hg : q.guard with
      | none =>
        simp only [hg] at h ⊢
        exact exO_mono hc h fun v m n h => ⟨h.1, exW_mono hc h.2 hK⟩
      | some gb =>
        obtain ⟨g, b⟩ := gb
        simp only [hg] at h ⊢
        split at h
        · exact ⟨fun e => exO_mono hc (h.1 e) fun v m n h => ⟨h.1, exW_mono hc h.2 hK⟩, fun e => exW_mono hc (h.2 e) hK⟩
        · exact exW_mono hc h hK
        · exact h.elim

theorem onBool_mono {v : SV} {F G : Bool → Prop} (h : onBool v F) (hFG : ∀ b, F b → G b) : onBool v G := by
  unfold onBool at h ⊢
  split at h
  · exact hFG _ h
  · exact h.elim

theorem loopN_mono {n0 : Nat} {body : Fr → Mem → Nat → Post → Prop} (hb : ∀ fr m n Q Q', body fr m n Q → (∀ e fr m n, Q e fr m n → Q' e fr m n) → body fr m n Q') {Q Q' : Post}
    (hQ : ∀ e fr m n, Q e fr m n → Q' e fr m n) : ∀ k fr m n, loopN n0 body Q k fr m n → loopN n0 body Q' k fr m n
  | 0, _, _, _, h => h.elim
  | k + 1, fr, m, n, h => by
    unfold loopN at h ⊢
    have key : ∀ e fr' m' n', seqQ (loopN n0 body Q k) Q e fr' m' n' → seqQ (loopN n0 body Q' k) Q' e fr' m' n' := by
      intro e fr' m' n' h
      cases e with
      | normal => exact loopN_mono hb hQ k _ _ _ h
      | exit id => exact hQ _ _ _ _ h
      | ret => exact hQ _ _ _ _ h
    rcases h with h | ⟨fr1, m1, n1, h1, h2⟩
    · exact .inl (hb _ _ _ _ _ h key)
    · exact .inr ⟨fr1, m1, n1, h1, hb _ _ _ _ _ h2 key⟩

theorem exC_mono {T : List (Nat × List SV)} {call : CallT} (hc : PointC call) {n0 : Nat} : ∀ (c : SC) (fr : Fr) (m : Mem) (n : Nat) (Q Q' : Post),
    exC T call n0 c fr m n Q → (∀ e fr m n, Q e fr m n → Q' e fr m n) → exC T call n0 c fr m n Q'
  | .skip, _, _, _, _, _, h, hQ => hQ _ _ _ _ h
  | .reg ops, _, _, _, _, _, h, hQ => exR_mono hc h fun _ _ _ h => hQ _ _ _ _ h
  | .regD k ops, _, _, _, _, _, h, hQ => exA_mono hc h fun _ _ h => exR_mono hc h fun _ _ _ h => hQ _ _ _ _ h
  | .regP _ ops, _, _, _, _, _, h, hQ => exR_mono hc h fun _ _ _ h => hQ _ _ _ _ h
  | .regW k ops, _, _, _, _, _, h, hQ => exW_mono hc h fun _ _ h => exR_mono hc h fun _ _ _ h => hQ _ _ _ _ h
  | .bad, _, _, _, _, _, h, _ => by simp only [exC] at h
  | .seq a b, _, _, _, Q, Q', h, hQ => by
    simp only [exC] at h ⊢
    refine exC_mono hc a _ _ _ _ _ h fun e fr m n h => ?_
    unfold seqQ at h ⊢
    cases e with
    | normal => exact exC_mono hc b _ _ _ _ _ h hQ
    | exit id => exact hQ _ _ _ _ h
    | ret => exact hQ _ _ _ _ h
  | .cond x a b, _, _, _, Q, Q', h, hQ => by
    simp only [exC] at h ⊢
    exact onBool_mono h fun t h => ⟨fun e => exC_mono hc a _ _ _ _ _ (h.1 e) hQ, fun e => exC_mono hc b _ _ _ _ _ (h.2 e) hQ⟩
  | .block id c, _, _, _, Q, Q', h, hQ => by
    simp only [exC] at h ⊢
    refine exC_mono hc c _ _ _ _ _ h fun e fr m n h => ?_
    unfold blkQ at h ⊢
    cases e with
    | normal => exact hQ _ _ _ _ h
    | exit j =>
      simp only at h ⊢
      split at h
      · rename_i e; rw [if_pos e]; exact hQ _ _ _ _ h
      · rename_i e; rw [if_neg e]; exact hQ _ _ _ _ h
    | ret => exact hQ _ _ _ _ h
  | .loop c, _, _, _, Q, Q', h, hQ => by
    simp only [exC] at h ⊢
    obtain ⟨k, h⟩ := h
    exact ⟨k, loopN_mono (fun fr m n Q Q' h hQ => exC_mono hc c fr m n Q Q' h hQ) hQ k _ _ _ h⟩
  | .exit id, _, _, _, _, _, h, hQ => hQ _ _ _ _ h
  | .ret, _, _, _, _, _, h, hQ => hQ _ _ _ _ h

/-- A LOOP BY ITS INVARIANT -/
theorem loop_inv {σ : Type} {n0 : Nat} {body : Fr → Mem → Nat → Post → Prop} (hb : ∀ fr m n Q Q', body fr m n Q → (∀ e fr m n, Q e fr m n → Q' e fr m n) → body fr m n Q') {Q : Post}
    (F : σ → Fr) (M : σ → Mem) (B : σ → Nat) (Inv : σ → Prop) (μ : σ → Nat)
    (round : ∀ s, Inv s → body (F s) (M s) (B s) (seqQ (fun fr' m' n' => ∃ s', Ent n0 fr' m' n' (F s') (M s') (B s') ∧ Inv s' ∧ μ s' < μ s) Q))
    (s : σ) {fr : Fr} {m : Mem} {n : Nat} (hE : Ent n0 fr m n (F s) (M s) (B s)) (hI : Inv s) : ∃ k, loopN n0 body Q k fr m n := by
  have key : ∀ k s fr m n, μ s < k → Ent n0 fr m n (F s) (M s) (B s) → Inv s → loopN n0 body Q k fr m n := by
    intro k
    induction k with
    | zero => intro s _ _ _ h; omega
    | succ k ih =>
      intro s fr m n hk hE hI
      unfold loopN
      refine .inr ⟨_, _, _, hE, hb _ _ _ _ _ (round s hI) fun e fr' m' n' h => ?_⟩
      cases e with
      | normal =>
        obtain ⟨s', h1, h2, h3⟩ := h
        exact ih s' _ _ _ (by omega) h1 h2
      | exit id => exact h
      | ret => exact h
  exact ⟨μ s + 1, key _ s fr m n (by omega) hE hI⟩

/-- the loop of a piece of code, by its invariant -/
theorem loop_code {P : Program} {T : List (Nat × List SV)} {σ : Type} {n0 : Nat} {c : SC} {Q : Post}
    (F : σ → Fr) (M : σ → Mem) (B : σ → Nat) (Inv : σ → Prop) (μ : σ → Nat)
    (s : σ) {fr : Fr} {m : Mem} {n : Nat} (hE : Ent n0 fr m n (F s) (M s) (B s)) (hI : Inv s)
    (round : ∀ s, Inv s → exC T (callT P T) n0 c (F s) (M s) (B s) (seqQ (fun fr' m' n' => ∃ s', Ent n0 fr' m' n' (F s') (M s') (B s') ∧ Inv s' ∧ μ s' < μ s) Q)) :
    ∃ k, loopN n0 (exC T (callT P T) n0 c) Q k fr m n :=
  loop_inv (fun fr m n Q Q' h hQ => exC_mono (callT_point P T) c fr m n Q Q' h hQ) F M B Inv μ round s hE hI

def chkC (P : Program) (N : Nat) : Code → SC → Bool
  | .skip, s => match s with | .skip => true | .bad => true | _ => false
  | .label _, s => match s with | .skip => true | .bad => true | _ => false
  | .region _ ops d, s => match s with
    | .reg qs => !d && chkOps P N ops.toList ops.toList qs
    | .regD k qs => d && chkD P N ops.toList qs k
    | .regP k qs => d && chkD P N ops.toList qs k && pureL [] (qs.take k)
    | .regW k qs => d && chkD P N ops.toList qs k
    | .bad => true
    | _ => false
  | .seq a b, s => match s with | .seq a' b' => chkC P N a a' && chkC P N b b' | .bad => true | _ => false
  | .cond c a b, s => match s with | .cond x a' b' => opdOk c x && chkC P N a a' && chkC P N b b' | .bad => true | _ => false
  | .block i c, s => match s with | .block j c' => i == j && chkC P N c c' | .bad => true | _ => false
  | .loop c, s => match s with | .loop c' => chkC P N c c' | .bad => true | _ => false
  | .scope c, s => chkC P N c s
  | .exit i, s => match s with | .exit j => i == j | .bad => true | _ => false
  | .ret, s => match s with | .ret => true | .bad => true | _ => false
  | _, s => match s with | .bad => true | _ => false

section
variable {C : Ctx} {N : Nat}

def QOf (C : Ctx) (N : Nat) (Φ : Post) : Exit → Act → World → Prop
  | .normal, a, w => ∃ ρ fr m n, Φ .normal fr m n ∧ Rel C N ρ fr m n a w
  | .exit id, a, w => ∃ ρ fr m n, Φ (.exit id) fr m n ∧ Rel C N ρ fr m n a w
  | .ret, a, w => ∃ ρ fr m n, Φ .ret fr m n ∧ Rel C N ρ fr m n a w
  | _, _, _ => False

theorem loop_ok {c : Code} {body : Fr → Mem → Nat → Post → Prop} {Φ : Post}
    (hb : ∀ fr m n ρ a w Ψ, body fr m n Ψ → Rel C N ρ fr m n a w → c.wp C.P (QOf C N Ψ) a w) :
    ∀ k fr m n ρ a w, loopN C.n0 body Φ k fr m n → Rel C N ρ fr m n a w → Code.rounds C.P c (QOf C N Φ) k a w
  | 0, _, _, _, _, _, _, h, _ => h.elim
  | k + 1, fr, m, n, ρ, a, w, h, R => by
    unfold loopN at h
    rw [rounds_succ]
    have key : ∀ e a w, QOf C N (seqQ (loopN C.n0 body Φ k) Φ) e a w → Exit.then (Code.rounds C.P c (QOf C N Φ) k) (QOf C N Φ) e a w := by
      intro e a w hq
      cases e with
      | normal =>
        obtain ⟨ρ', fr', m', n', h1, h2⟩ := hq
        exact loop_ok hb k fr' m' n' ρ' a w h1 h2
      | exit id => exact hq
      | ret => exact hq
      | goto l => exact hq
      | panic ch => exact hq
      | outgrown => exact hq
    rcases h with h | ⟨fr1, m1, n1, h1, h2⟩
    · exact wp_mono (hb _ _ _ _ _ _ _ h R) key
    · obtain ⟨ρ', R'⟩ := R.ent h1
      exact wp_mono (hb _ _ _ _ _ _ _ h2 R') key

theorem code_ok (X : CtxOk C) : ∀ (c : Code) (s : SC) (fr : Fr) (m : Mem) (n : Nat) (ρ : Env) (a : Act) (w : World) (Φ : Post),
    chkC C.P N c s = true → exC C.T (callT C.P C.T) C.n0 s fr m n Φ → Rel C N ρ fr m n a w → c.wp C.P (QOf C N Φ) a w
  | .skip, s, fr, m, n, ρ, a, w, Φ, hc, h, R => by
    cases s <;> simp only [chkC] at hc <;> first | (simp only [exC] at h; done) | cases hc | skip
    exact wp_skip ⟨ρ, fr, m, n, h, R⟩
  | .label l, s, fr, m, n, ρ, a, w, Φ, hc, h, R => by
    cases s <;> simp only [chkC] at hc <;> first | (simp only [exC] at h; done) | cases hc | skip
    exact wp_label ⟨ρ, fr, m, n, h, R⟩
  | .region id ops d, s, fr, m, n, ρ, a, w, Φ, hc, h, R => by
    cases s <;> simp only [chkC] at hc <;> first | (simp only [exC] at h; done) | cases hc | skip
    case reg qs =>
      simp only [Bool.and_eq_true, Bool.not_eq_true'] at hc
      obtain ⟨rfl, hc⟩ := hc
      refine wp_region_list (reg_ok X ops.toList qs fr m n ρ a w _ hc h R ?_ |> fun h => by rwa [Array.toArray_toList] at h)
      intro ρ' fr' m' n' a' w' h1 h2
      exact ⟨ρ', fr', m', n', h1, h2⟩
    case regD k qs =>
      simp only [Bool.and_eq_true] at hc
      obtain ⟨rfl, hc⟩ := hc
      exact draw_ok X hc h R fun ρ' fr' m' n' a' w' h1 h2 => ⟨ρ', fr', m', n', h1, h2⟩
    case regW k qs =>
      simp only [Bool.and_eq_true] at hc
      obtain ⟨rfl, hc⟩ := hc
      exact drawW_ok X hc h R fun ρ' fr' m' n' a' w' h1 h2 => ⟨ρ', fr', m', n', h1, h2⟩
    case regP k qs =>
      simp only [Bool.and_eq_true] at hc
      obtain ⟨⟨rfl, hc⟩, hp⟩ := hc
      simp only [exC] at h
      have h' := exA_of_seq (callT_point C.P C.T) (B := qs.drop k) (qs.take k) [] [] (by simpa using hp) (by simp) (.inr rfl) (by rw [List.take_append_drop]; exact h)
      exact draw_ok X hc (by simpa using h') R fun ρ' fr' m' n' a' w' h1 h2 => ⟨ρ', fr', m', n', h1, h2⟩
  | .seq c d, s, fr, m, n, ρ, a, w, Φ, hc, h, R => by
    cases s <;> simp only [chkC] at hc <;> first | (simp only [exC] at h; done) | cases hc | skip
    simp only [Bool.and_eq_true] at hc
    simp only [exC] at h
    refine wp_seq (wp_mono (code_ok X c _ fr m n ρ a w _ hc.1 h R) fun e a w hq => ?_)
    cases e with
    | normal =>
      obtain ⟨ρ', fr', m', n', h1, h2⟩ := hq
      exact code_ok X d _ fr' m' n' ρ' a w Φ hc.2 h1 h2
    | exit id => exact hq
    | ret => exact hq
    | goto l => exact hq
    | panic ch => exact hq
    | outgrown => exact hq
  | .cond o c d, s, fr, m, n, ρ, a, w, Φ, hc, h, R => by
    cases s <;> simp only [chkC] at hc <;> first | (simp only [exC] at h; done) | cases hc | skip
    simp only [Bool.and_eq_true] at hc
    simp only [exC] at h
    obtain ⟨b, hb, h1, h2⟩ := onBool_is h (ev_is R hc.1.1)
    refine wp_cond (t := b) hb ?_
    cases b
    · exact code_ok X d _ fr m n ρ a w Φ hc.2 (h2 rfl) R
    · exact code_ok X c _ fr m n ρ a w Φ hc.1.2 (h1 rfl) R
  | .block i c, s, fr, m, n, ρ, a, w, Φ, hc, h, R => by
    cases s <;> simp only [chkC] at hc <;> first | (simp only [exC] at h; done) | cases hc | skip
    simp only [Bool.and_eq_true, beq_iff_eq] at hc
    obtain ⟨rfl, hc⟩ := hc
    simp only [exC] at h
    refine wp_block (wp_mono (code_ok X c _ fr m n ρ a w _ hc h R) fun e a w hq => ?_)
    cases e with
    | normal => exact hq
    | exit id =>
      obtain ⟨ρ', fr', m', n', h1, h2⟩ := hq
      simp only [blkQ] at h1
      simp only [Exit.inBlock]
      split
      · rename_i e; rw [if_pos e] at h1; exact ⟨ρ', fr', m', n', h1, h2⟩
      · rename_i e; rw [if_neg e] at h1; exact ⟨ρ', fr', m', n', h1, h2⟩
    | ret => exact hq
    | goto l => exact hq
    | panic ch => exact hq
    | outgrown => exact hq
  | .loop c, s, fr, m, n, ρ, a, w, Φ, hc, h, R => by
    cases s <;> simp only [chkC] at hc <;> first | (simp only [exC] at h; done) | cases hc | skip
    rename_i c'
    simp only [exC] at h
    obtain ⟨k, h⟩ := h
    exact wp_loop_rounds k (loop_ok (fun fr m n ρ a w Ψ h R => code_ok X c c' fr m n ρ a w Ψ hc h R) k fr m n ρ a w h R)
  | .scope c, s, fr, m, n, ρ, a, w, Φ, hc, h, R => by
    simp only [chkC] at hc
    refine wp_scope_straight (wp_mono (code_ok X c s fr m n ρ a w Φ hc h R) fun e a w hq => ?_)
    cases e <;> first | exact hq
  | .exit i, s, fr, m, n, ρ, a, w, Φ, hc, h, R => by
    cases s <;> simp only [chkC] at hc <;> first | (simp only [exC] at h; done) | cases hc | skip
    simp only [beq_iff_eq] at hc; subst hc
    exact wp_exit ⟨ρ, fr, m, n, h, R⟩
  | .ret, s, fr, m, n, ρ, a, w, Φ, hc, h, R => by
    cases s <;> simp only [chkC] at hc <;> first | (simp only [exC] at h; done) | cases hc | skip
    exact wp_ret ⟨ρ, fr, m, n, h, R⟩
  | .goto _, s, _, _, _, _, _, _, _, hc, h, _ => by cases s <;> simp only [chkC] at hc <;> first | (simp only [exC] at h; done) | cases hc
  | .rangeFunc _ _ _ _, s, _, _, _, _, _, _, _, hc, h, _ => by cases s <;> simp only [chkC] at hc <;> first | (simp only [exC] at h; done) | cases hc
  | .refuse _, s, _, _, _, _, _, _, _, hc, h, _ => by cases s <;> simp only [chkC] at hc <;> first | (simp only [exC] at h; done) | cases hc
end
end Go.Sx
