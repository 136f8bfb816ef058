/- The engine, part K: what is known of a function, and how it serves at a call. -/
import Derived.Test.YtflkcganpgjkkaaDoorEngJ
namespace Go.Sx
open Go
set_option linter.unusedSimpArgs false
set_option linter.unusedVariables false

def ownsB (ρ : Env) (m : Mem) (b : Nat) : Prop := ∃ i B L, (i, B) ∈ m ∧ B.own ∧ ρ i = some L ∧ L.blk = some b
def ctxOf (P : Program) (T : List (Nat × List SV)) (ρ : Env) (m : Mem) (n : Nat) (w : World) : Ctx := ⟨P, w, ρ, n, ownsB ρ m, T⟩

def funcOk (P : Program) (f : FuncId) : Bool :=
  match P.funcs[f]? with
  | some fn => !(fn.name == "runtime.NumGoroutine") && fn.body.isSome
  | none => false

structure Fun (P : Program) (T : List (Nat × List SV)) (f : FuncId) (args : List SV) (m : Mem) (n : Nat) (r : SV) (m' : Mem) (n' : Nat) : Prop where
  fok : funcOk P f = true
  le : n ≤ n'
  run : ∀ ρ w vals, MemOk (ctxOf P T ρ m n w) ρ m n w → CtxOk (ctxOf P T ρ m n w) → SV.isL ρ args vals →
    Calls P f vals.toArray w fun e w' => ∃ x ρ', e = .returned x ∧ ρ.le ρ' ∧ r.is ρ' x ∧ MemOk (ctxOf P T ρ m n w) ρ' m' n' w'

def eta (hs : List (Nat × Nat)) (n : Nat) (i : Nat) : Nat × Nat := (hs[i]?).getD (n + (i - hs.length), 0)

def Kind.isOwn : Kind → Bool
  | .own _ => true
  | .view => false

theorem isOwn_own {B : Blk} (h : B.kind.isOwn = true) : B.own := by
  cases hk : B.kind with
  | own e => exact ⟨e, hk⟩
  | view => rw [hk] at h; cases h
theorem own_isOwn {B : Blk} (h : B.own) : B.kind.isOwn = true := by
  obtain ⟨e, he⟩ := h; rw [he]; rfl

def compat (η : Nat → Nat × Nat) (m : Mem) : Mem → Prop
  | [] => True
  | (i, B0) :: r => (∃ B, rd m (η i).1 = some B ∧
      match B0.kind with
      | .own e => (η i).2 = 0 ∧ B.kind = .own e ∧ B.cells = SV.renL η B0.cells
      | .view => (η i).2 + B0.cells.length ≤ B.cells.length ∧ SV.renL η B0.cells = (B.cells.drop (η i).2).take B0.cells.length) ∧ compat η m r

def apartM (η : Nat → Nat × Nat) : Mem → Prop
  | [] => True
  | (i, B0) :: r => (∀ x ∈ r, (B0.kind.isOwn || x.2.kind.isOwn) = true → (η i).1 ≠ (η x.1).1) ∧ apartM η r

def keysBelow (k : Nat) : Mem → Prop
  | [] => True
  | (i, _) :: r => i < k ∧ keysBelow k r

def zeroSh (η : Nat → Nat × Nat) : Mem → Prop
  | [] => True
  | (i, B) :: r => (B.kind.isOwn = true → (η i).2 = 0) ∧ zeroSh η r

def newOwn (η : Nat → Nat × Nat) : Mem → Mem
  | [] => []
  | (i, B) :: r => match B.kind.isOwn with
    | true => ((η i).1, ⟨B.kind, SV.renL η B.cells⟩) :: newOwn η r
    | false => newOwn η r

def targets (η : Nat → Nat × Nat) : Mem → List Nat
  | [] => []
  | (i, B) :: r => match B.kind.isOwn with
    | true => (η i).1 :: targets η r
    | false => targets η r

def rms : Mem → List Nat → Mem
  | m, [] => m
  | m, t :: ts => rms (rm m t) ts

theorem mem_rms : ∀ {ts : List Nat} {m : Mem} {x : Nat × Blk}, x ∈ rms m ts → x ∈ m ∧ x.1 ∉ ts
  | [], m, x, h => ⟨h, by simp⟩
  | t :: ts, m, x, h => by
    obtain ⟨h1, h2⟩ := mem_rms (ts := ts) h
    obtain ⟨h3, h4⟩ := mem_rm h1
    exact ⟨h3, by simp; exact ⟨h4, h2⟩⟩

theorem mem_newOwn {η : Nat → Nat × Nat} : ∀ {m : Mem} {x : Nat × Blk}, x ∈ newOwn η m → ∃ i B, (i, B) ∈ m ∧ B.own ∧ x = ((η i).1, ⟨B.kind, SV.renL η B.cells⟩)
  | [], x, h => by simp [newOwn] at h
  | (i, B) :: r, x, h => by
    unfold newOwn at h
    cases hk : B.kind.isOwn with
    | true =>
      simp only [hk] at h
      rcases List.mem_cons.1 h with h | h
      · exact ⟨i, B, List.mem_cons_self, isOwn_own hk, h⟩
      · obtain ⟨j, B', h1, h2, h3⟩ := mem_newOwn h
        exact ⟨j, B', List.mem_cons_of_mem _ h1, h2, h3⟩
    | false =>
      simp only [hk] at h
      obtain ⟨j, B', h1, h2, h3⟩ := mem_newOwn h
      exact ⟨j, B', List.mem_cons_of_mem _ h1, h2, h3⟩

theorem mem_targets {η : Nat → Nat × Nat} : ∀ {m : Mem} {i : Nat} {B : Blk}, (i, B) ∈ m → B.own → (η i).1 ∈ targets η m
  | (j, B') :: r, i, B, h, ho => by
    unfold targets
    rcases List.mem_cons.1 h with h | h
    · cases h
      rw [own_isOwn ho]; simp
    · have := mem_targets (η := η) h ho
      cases hk : B'.kind.isOwn <;> simp [this]

theorem compat_get {η : Nat → Nat × Nat} {m : Mem} : ∀ {m0 : Mem}, compat η m m0 → ∀ i B0, (i, B0) ∈ m0 → ∃ B, rd m (η i).1 = some B ∧
      match B0.kind with
      | .own e => (η i).2 = 0 ∧ B.kind = .own e ∧ B.cells = SV.renL η B0.cells
      | .view => (η i).2 + B0.cells.length ≤ B.cells.length ∧ SV.renL η B0.cells = (B.cells.drop (η i).2).take B0.cells.length
  | (j, B') :: r, h, i, B0, hm => by
    simp only [compat] at h
    rcases List.mem_cons.1 hm with e | e
    · cases e; exact h.1
    · exact compat_get h.2 i B0 e

theorem apartM_get {η : Nat → Nat × Nat} : ∀ {m0 : Mem}, apartM η m0 → ∀ i B j B', (i, B) ∈ m0 → (j, B') ∈ m0 → i ≠ j → B.own → (η i).1 ≠ (η j).1
  | (q, D) :: r, h, i, B, j, B', hi, hj, hij, ho => by
    simp only [apartM] at h
    rcases List.mem_cons.1 hi with e | e
    · cases e
      rcases List.mem_cons.1 hj with e' | e'
      · cases e'; exact (hij rfl).elim
      · exact h.1 _ e' (by simp [own_isOwn ho])
    · rcases List.mem_cons.1 hj with e' | e'
      · cases e'
        exact fun heq => h.1 _ e (by simp [own_isOwn ho]) heq.symm
      · exact apartM_get h.2 i B j B' e e' hij ho

theorem keysBelow_get {k : Nat} : ∀ {m0 : Mem}, keysBelow k m0 → ∀ i B, (i, B) ∈ m0 → i < k
  | (q, D) :: r, h, i, B, hi => by
    simp only [keysBelow] at h
    rcases List.mem_cons.1 hi with e | e
    · cases e; exact h.1
    · exact keysBelow_get h.2 i B e

theorem zeroSh_get {η : Nat → Nat × Nat} : ∀ {m0 : Mem}, zeroSh η m0 → ∀ i B, (i, B) ∈ m0 → B.own → (η i).2 = 0
  | (q, D) :: r, h, i, B, hi, ho => by
    simp only [zeroSh] at h
    rcases List.mem_cons.1 hi with e | e
    · cases e; exact h.1 (own_isOwn ho)
    · exact zeroSh_get h.2 i B e ho

theorem Loc.shift_zero (L : Loc) : L.shift 0 = L := rfl

section
variable {C : Ctx} {ρ : Env} {m m0 : Mem} {n : Nat} {w : World} {hs : List (Nat × Nat)}

theorem eta_lt {i : Nat} (h : i < hs.length) : eta hs n i = hs[i] := by unfold eta; simp [h]
theorem eta_ge {i : Nat} (h : hs.length ≤ i) : eta hs n i = (n + (i - hs.length), 0) := by
  unfold eta; rw [List.getElem?_eq_none h]; rfl

theorem callee_mem (R : MemOk C ρ m n w) (hc : compat (eta hs n) m m0) (ha : apartM (eta hs n) m0) (hk : keysBelow hs.length m0) :
    MemOk (ctxOf C.P C.T (ρ.via (eta hs n)) m0 hs.length w) (ρ.via (eta hs n)) m0 hs.length w := by
  constructor
  · intro i B0 hi
    obtain ⟨B, hB, hk'⟩ := compat_get hc i B0 hi
    obtain ⟨L, h1, h2⟩ := R.blk _ B (rd_mem hB)
    refine ⟨L.shift (eta hs n i).2, by simp [Env.via, h1], ?_⟩
    unfold Blk.okAt at h2 ⊢
    cases hkd : B0.kind with
    | own e =>
      simp only [hkd] at hk'
      obtain ⟨g1, g2, g3⟩ := hk'
      rw [g1, Loc.shift_zero]
      cases hb : L.blk with
      | none =>
        rw [hb] at h2; simp only at h2 ⊢
        refine ⟨?_, h2.2⟩
        have := h2.1; rw [g3, SV.renL_eq] at this; simpa using this
      | some b =>
        rw [hb] at h2; simp only [g2] at h2; simp only
        refine ⟨h2.1, fun j v hj => ?_, h2.2.2.1, ?_, h2.2.2.2.2⟩
        · obtain ⟨x, q1, q2, q3⟩ := h2.2.1 j (v.ren (eta hs n)) (by rw [g3, SV.renL_eq]; simp [hj])
          exact ⟨x, q1, (SV.is_ren v x).1 q2, q3⟩
        · have := h2.2.2.2.1; rw [g3, SV.renL_eq] at this; simpa using this
    | view =>
      simp only [hkd] at hk'
      obtain ⟨g1, g2⟩ := hk'
      cases hb : L.blk with
      | none =>
        rw [hb] at h2; simp only [Loc.shift, hb] at h2 ⊢
        rw [h2.1] at g1; simp at g1
        exact ⟨g1.2, by rw [h2.2]; simp⟩
      | some b =>
        rw [hb] at h2; simp only [Loc.shift, hb] at h2 ⊢
        refine ⟨h2.1, fun j v hj => ?_, trivial⟩
        have hlt : j < B0.cells.length := by
          rcases Nat.lt_or_ge j B0.cells.length with h | h
          · exact h
          · rw [List.getElem?_eq_none h] at hj; cases hj
        have hren : (SV.renL (eta hs n) B0.cells)[j]? = some (v.ren (eta hs n)) := by rw [SV.renL_eq]; simp [hj]
        rw [g2, List.getElem?_take_of_lt hlt, List.getElem?_drop] at hren
        obtain ⟨x, q1, q2, q3⟩ := h2.2.1 _ _ hren
        exact ⟨x, by rw [Nat.add_assoc]; exact q1, (SV.is_ren v x).1 q2, q3⟩
  · intro i B j B' L L' b hi hj hij ho hL hL' hb
    obtain ⟨D, hD, hD'⟩ := compat_get hc i B hi
    obtain ⟨D2, hD2, _⟩ := compat_get hc j B' hj
    obtain ⟨e, he⟩ := ho
    simp only [he] at hD'
    have hne := apartM_get ha i B j B' hi hj hij ⟨e, he⟩
    unfold Env.via at hL hL'
    obtain ⟨L1, g1, rfl⟩ := Option.map_eq_some_iff.1 hL
    obtain ⟨L2, g2, rfl⟩ := Option.map_eq_some_iff.1 hL'
    exact R.apart _ D _ D2 L1 L2 b (rd_mem hD) (rd_mem hD2) hne ⟨e, hD'.2.1⟩ g1 g2 hb
  · intro i hi
    unfold Env.via
    rw [eta_ge hi, R.fresh _ (by simp)]; rfl
  · intro i B L b hi ho hL hb
    exact .inr ⟨i, B, L, hi, ho, hL, hb⟩
  · exact Nat.le_refl _
  · intro b _ _; rfl
  · intro i _; rfl
  · exact ⟨rfl, rfl⟩

theorem owns_target (R : MemOk C ρ m n w) (hc : compat (eta hs n) m m0) {b : Nat} (h : ownsB (ρ.via (eta hs n)) m0 b) :
    ∃ t B e L, t ∈ targets (eta hs n) m0 ∧ (t, B) ∈ m ∧ B.kind = .own e ∧ ρ t = some L ∧ L.blk = some b := by
  obtain ⟨i, B0, L0, h1, h2, h3, h4⟩ := h
  obtain ⟨B, hB, hk⟩ := compat_get hc i B0 h1
  obtain ⟨e, he⟩ := h2
  simp only [he] at hk
  unfold Env.via at h3
  obtain ⟨L1, g1, rfl⟩ := Option.map_eq_some_iff.1 h3
  exact ⟨_, B, e, L1, mem_targets h1 ⟨e, he⟩, rd_mem hB, hk.2.1, g1, h4⟩

theorem callee_ctx (R : MemOk C ρ m n w) (X : CtxOk C) (hc : compat (eta hs n) m m0) :
    CtxOk (ctxOf C.P C.T (ρ.via (eta hs n)) m0 hs.length w) := by
  constructor
  · intro g cs h
    obtain ⟨h1, h2⟩ := X.tab g cs h
    refine ⟨Nat.lt_of_lt_of_le h1 R.size, fun j v hj => ?_⟩
    obtain ⟨x, q1, q2, q3⟩ := h2 j v hj
    exact ⟨x, by rw [← q1]; exact cell?_of_heap (R.frame g h1 (X.nwr g cs h)), q2, q3⟩
  · intro g cs h ho
    obtain ⟨t, B, e, L, h1, h2, h3, h4, h5⟩ := owns_target R hc ho
    have hg := X.tab g cs h
    rcases R.wrt t B L g h2 ⟨e, h3⟩ h4 h5 with q | q
    · exact absurd hg.1 (by omega)
    · exact X.nwr g cs h q

def backEnv (ρ ρ1 : Env) (n k : Nat) : Env := fun j => if j < n then ρ j else ρ1 (k + (j - n))

theorem back_via {ρ1 : Env} (hk : ∀ i, i < hs.length → ρ1 i = (ρ.via (eta hs n)) i) (hlt : ∀ i, i < hs.length → (eta hs n i).1 < n) :
    (backEnv ρ ρ1 n hs.length).via (eta hs n) = ρ1 := by
  funext i
  unfold Env.via backEnv
  by_cases h : i < hs.length
  · rw [if_pos (hlt i h), hk i h]; rfl
  · rw [eta_ge (by omega)]
    rw [if_neg (by simp)]
    simp only [Nat.add_sub_cancel_left]
    rw [show hs.length + (i - hs.length) = i by omega]
    cases ρ1 i <;> rfl

theorem caller_mem (R : MemOk C ρ m n w) (hn0 : C.n0 ≤ n) (hc : compat (eta hs n) m m0) (hlt : ∀ i, i < hs.length → (eta hs n i).1 < n)
    {ρ1 : Env} {m1 : Mem} {n1 : Nat} {w' : World} (hle1 : hs.length ≤ n1) (hzs : zeroSh (eta hs n) m1)
    (R1 : MemOk (ctxOf C.P C.T (ρ.via (eta hs n)) m0 hs.length w) ρ1 m1 n1 w') :
    MemOk C (backEnv ρ ρ1 n hs.length) (newOwn (eta hs n) m1 ++ rms m (targets (eta hs n) m0)) (n + (n1 - hs.length)) w' ∧
    ρ.le (backEnv ρ ρ1 n hs.length) := by
  have hvia := back_via (ρ := ρ) (n := n) (ρ1 := ρ1) (hs := hs) (fun i hi => R1.keep i hi) hlt
  have hle : ρ.le (backEnv ρ ρ1 n hs.length) := fun i L hL => by
    unfold backEnv
    have : i < n := by
      rcases Nat.lt_or_ge i n with h | h
      · exact h
      · rw [R.fresh i h] at hL; cases hL
    rw [if_pos this]; exact hL
  have hback : ∀ j, j < n → backEnv ρ ρ1 n hs.length j = ρ j := fun j hj => by unfold backEnv; rw [if_pos hj]
  have hinn : ∀ j B, (j, B) ∈ m → j < n := fun j B hj => by
    obtain ⟨L, h1, _⟩ := R.blk j B hj
    rcases Nat.lt_or_ge j n with h | h
    · exact h
    · rw [R.fresh j h] at h1; cases h1
  -- a renamed own block: its place
  have hnew : ∀ i B, (i, B) ∈ m1 → B.own → ∃ L, ρ1 i = some L ∧ B.okAt ρ1 w' L ∧ backEnv ρ ρ1 n hs.length (eta hs n i).1 = some L := by
    intro i B hi ho
    obtain ⟨L, h1, h2⟩ := R1.blk i B hi
    have hv : ((backEnv ρ ρ1 n hs.length).via (eta hs n)) i = some L := by rw [hvia]; exact h1
    unfold Env.via at hv
    obtain ⟨L', g1, g2⟩ := Option.map_eq_some_iff.1 hv
    rw [zeroSh_get hzs i B hi ho, Loc.shift_zero] at g2
    exact ⟨L, h1, h2, by rw [g1, g2]⟩
  have hold : ∀ j B L b, (j, B) ∈ m → j ∉ targets (eta hs n) m0 → ρ j = some L → L.blk = some b → w'.heap[b]? = w.heap[b]? ∧ b < w.heap.size ∧ ¬ ownsB (ρ.via (eta hs n)) m0 b := by
    intro j B L b hj hnt hL hb
    have hno : ¬ ownsB (ρ.via (eta hs n)) m0 b := by
      intro ho
      obtain ⟨t, Bt, e, Lt, h1, h2, h3, h4, h5⟩ := owns_target R hc ho
      exact R.apart t Bt j B Lt L b h2 hj (fun e => hnt (e ▸ h1)) ⟨e, h3⟩ h4 hL h5 hb
    have hbs : b < w.heap.size := by
      obtain ⟨L', g1, g2⟩ := R.blk j B hj
      rw [hL] at g1; cases g1
      unfold Blk.okAt at g2; rw [hb] at g2; exact g2.1
    exact ⟨R1.frame b hbs hno, hbs, hno⟩
  refine ⟨⟨?_, ?_, ?_, ?_, ?_, ?_, ?_, ⟨R1.side.1.trans R.side.1, R1.side.2.trans R.side.2⟩⟩, hle⟩
  · intro i B hi
    rcases List.mem_append.1 hi with hi | hi
    · obtain ⟨i1, B1, h1, h2, h3⟩ := mem_newOwn hi
      cases h3
      obtain ⟨L, g1, g2, g3⟩ := hnew i1 B1 h1 h2
      refine ⟨L, g3, ?_⟩
      unfold Blk.okAt at g2 ⊢
      cases hb : L.blk with
      | none =>
        rw [hb] at g2
        exact ⟨by simp only; rw [SV.renL_eq, g2.1]; rfl, g2.2⟩
      | some b =>
        rw [hb] at g2
        refine ⟨g2.1, fun j v hj => ?_, ?_⟩
        · simp only at hj
          rw [SV.renL_eq, List.getElem?_map] at hj
          obtain ⟨v0, hv0, rfl⟩ := Option.map_eq_some_iff.1 hj
          obtain ⟨x, q1, q2, q3⟩ := g2.2.1 j v0 hv0
          exact ⟨x, q1, (SV.is_ren v0 x).2 (by rw [hvia]; exact q2), q3⟩
        · obtain ⟨e, he⟩ := h2
          have := g2.2.2
          simp only [he] at this ⊢
          rw [SV.renL_eq]; simpa using this
    · obtain ⟨hm, hnt⟩ := mem_rms hi
      obtain ⟨L, g1, g2⟩ := R.blk i B hm
      exact ⟨L, by rw [hback i (hinn i B hm)]; exact g1, g2.mono hle (fun b hb => (hold i B L b hm hnt g1 hb).1) R1.size⟩
  · intro i B j B' L L' b hi hj hij ho hL hL' hb
    -- a new own block's number is none of an old one's
    have cross : ∀ i1 B1 L1 j2 B2 L2 b, (i1, B1) ∈ m1 → B1.own → ρ1 i1 = some L1 → L1.blk = some b → (j2, B2) ∈ m → j2 ∉ targets (eta hs n) m0 → ρ j2 = some L2 → L2.blk ≠ some b := by
      intro i1 B1 L1 j2 B2 L2 b h1 h2 h3 h4 h5 h6 h7 h8
      obtain ⟨_, q2, q3⟩ := hold j2 B2 L2 b h5 h6 h7 h8
      rcases R1.wrt i1 B1 L1 b h1 h2 h3 h4 with q | q
      · simp only [ctxOf] at q; omega
      · exact q3 q
    rcases List.mem_append.1 hi with hi | hi
    · obtain ⟨i1, B1, h1, h2, h3⟩ := mem_newOwn hi
      cases h3
      obtain ⟨L1, g1, _, g3⟩ := hnew i1 B1 h1 h2
      rw [g3] at hL; cases hL
      rcases List.mem_append.1 hj with hj | hj
      · obtain ⟨j1, D1, k1, k2, k3⟩ := mem_newOwn hj
        cases k3
        obtain ⟨L2, q1, _, q3⟩ := hnew j1 D1 k1 k2
        rw [q3] at hL'; cases hL'
        exact R1.apart i1 B1 j1 D1 _ _ b h1 k1 (fun e => hij (by rw [e])) h2 g1 q1 hb
      · obtain ⟨hm, hnt⟩ := mem_rms hj
        rw [hback j (hinn j B' hm)] at hL'
        exact cross i1 B1 _ j B' L' b h1 h2 g1 hb hm hnt hL'
    · obtain ⟨hm, hnt⟩ := mem_rms hi
      rw [hback i (hinn i B hm)] at hL
      rcases List.mem_append.1 hj with hj | hj
      · obtain ⟨j1, D1, k1, k2, k3⟩ := mem_newOwn hj
        cases k3
        obtain ⟨L2, q1, _, q3⟩ := hnew j1 D1 k1 k2
        rw [q3] at hL'; cases hL'
        intro hb'
        exact cross j1 D1 _ i B L b k1 k2 q1 hb' hm hnt hL hb
      · obtain ⟨hm', hnt'⟩ := mem_rms hj
        rw [hback j (hinn j B' hm')] at hL'
        exact R.apart i B j B' L L' b hm hm' hij ho hL hL' hb
  · intro i hi
    unfold backEnv
    rw [if_neg (by omega)]
    exact R1.fresh _ (by omega)
  · intro i B L b hi ho hL hb
    rcases List.mem_append.1 hi with hi | hi
    · obtain ⟨i1, B1, h1, h2, h3⟩ := mem_newOwn hi
      cases h3
      obtain ⟨L1, g1, _, g3⟩ := hnew i1 B1 h1 h2
      rw [g3] at hL; cases hL
      rcases R1.wrt i1 B1 _ b h1 h2 g1 hb with q | q
      · simp only [ctxOf] at q; exact .inl (Nat.le_trans R.size q)
      · obtain ⟨t, Bt, e, Lt, r1, r2, r3, r4, r5⟩ := owns_target R hc q
        exact R.wrt t Bt Lt b r2 ⟨e, r3⟩ r4 r5
    · obtain ⟨hm, hnt⟩ := mem_rms hi
      rw [hback i (hinn i B hm)] at hL
      exact R.wrt i B L b hm ho hL hb
  · exact Nat.le_trans R.size R1.size
  · intro b hb hwr
    have hno : ¬ ownsB (ρ.via (eta hs n)) m0 b := by
      intro ho
      obtain ⟨t, Bt, e, Lt, r1, r2, r3, r4, r5⟩ := owns_target R hc ho
      rcases R.wrt t Bt Lt b r2 ⟨e, r3⟩ r4 r5 with q | q
      · omega
      · exact hwr q
    have := R1.frame b (Nat.lt_of_lt_of_le hb R.size) hno
    exact this.trans (R.frame b hb hwr)
  · intro i hi
    rw [hback i (by omega)]; exact R.keep i hi

/-- THE CALL: what is known of a function serves at a call with more memory around it -/
theorem call_ok (R : MemOk C ρ m n w) (X : CtxOk C) (hn0 : C.n0 ≤ n) {f : FuncId} {args0 : List SV} {r0 : SV} {m1 : Mem} {n1 : Nat} {K : Kt}
    (F : Fun C.P C.T f args0 m0 hs.length r0 m1 n1) (hc : compat (eta hs n) m m0) (ha : apartM (eta hs n) m0) (hk : keysBelow hs.length m0)
    (hlt : ∀ i, i < hs.length → (eta hs n i).1 < n) (hzs : zeroSh (eta hs n) m1) {vals : List Value} (hv : SV.isL ρ (SV.renL (eta hs n) args0) vals)
    (hK : K (r0.ren (eta hs n)) (newOwn (eta hs n) m1 ++ rms m (targets (eta hs n) m0)) (n + (n1 - hs.length))) :
    Calls C.P f vals.toArray w fun e w' => ∃ x, e = .returned x ∧ ∃ ρ' v m' n', ρ.le ρ' ∧ K v m' n' ∧ v.is ρ' x ∧ MemOk C ρ' m' n' w' ∧ C.n0 ≤ n' := by
  refine (F.run (ρ.via (eta hs n)) w vals (callee_mem R hc ha hk) (callee_ctx R X hc) ((SV.isL_ren _ _).1 hv)).mono ?_
  rintro e w' ⟨x, ρ1, rfl, h1, h2, h3⟩
  obtain ⟨g1, g2⟩ := caller_mem R hn0 hc hlt F.le hzs h3
  refine ⟨x, rfl, _, _, _, _, g2, hK, (SV.is_ren _ _).2 ?_, g1, by omega⟩
  rw [back_via (fun i hi => h3.keep i hi) hlt]; exact h2
end

/-- what a caller shows at a call -/
def callT (P : Program) (T : List (Nat × List SV)) : CallT := fun f args m n K =>
  ∃ hs args0 m0 r0 m1 n1, Fun P T f args0 m0 (List.length hs) r0 m1 n1 ∧ args = SV.renL (eta hs n) args0 ∧ compat (eta hs n) m m0 ∧ apartM (eta hs n) m0 ∧
    keysBelow hs.length m0 ∧ (∀ h ∈ hs, h.1 < n) ∧ zeroSh (eta hs n) m1 ∧ K (r0.ren (eta hs n)) (newOwn (eta hs n) m1 ++ rms m (targets (eta hs n) m0)) (n + (n1 - hs.length))
end Go.Sx
