/- The engine, part Q: a region whose order is open. -/
import Derived.Test.YtflkcganpgjkkaaDoorEngO
namespace Go.Sx
open Go
set_option linter.unusedSimpArgs false
set_option linter.unusedVariables false

def edges (o : Oper) : List Nat := (o.after.toList.filter (Region.binds .any)).map (·.on)

def preOk (ops : List Oper) (qs : List Opr) (i : Nat) : Bool :=
  match ops[i]?, qs[i]? with
  | some o, some q => (edges o).all (fun e => decide (e < i)) && q.pre.all fun p => decide (p < i) && ((edges o).contains p || (edges o).any fun e => match qs[e]? with | some qe => qe.pre.contains p | none => false)
  | _, _ => false
def hideOk (qs : List Opr) (i : Nat) : Bool :=
  match qs[i]? with
  | some q => (List.range qs.length).all fun j => j == i || match qs[j]? with
    | some qj => match qj.dst with
      | none => true
      | some d => q.hide.contains d || q.pre.contains j || qj.pre.contains i
    | none => true
  | none => false
def dstOk (qs : List Opr) : Bool :=
  (List.range qs.length).all fun i => (List.range qs.length).all fun j => i == j || match qs[i]?, qs[j]? with
    | some a, some b => a.dst == none || a.dst != b.dst
    | _, _ => true
def lastOk (qs : List Opr) (k : Nat) : Bool :=
  (List.range qs.length).all fun i => decide (i < k) || match qs[i]? with
    | some q => (List.range i).all fun j => q.pre.contains j
    | none => false
def chkD (P : Program) (N : Nat) (ops : List Oper) (qs : List Opr) (k : Nat) : Bool :=
  P.follows .mixedOrders && chkOps P N ops ops qs && (List.range qs.length).all (preOk ops qs) && (List.range qs.length).all (hideOk qs) && dstOk qs && lastOk qs k && decide (k ≤ qs.length)

theorem all_range {n : Nat} {p : Nat → Bool} (h : (List.range n).all p = true) {i : Nat} (hi : i < n) : p i = true :=
  List.all_eq_true.1 h i (List.mem_range.2 hi)

/-- the closure of the edges -/
theorem pre_closed {ops : List Oper} {qs : List Opr} (hlen : ops.length = qs.length) (hp : ∀ i, i < qs.length → preOk ops qs i = true) {S : Nat → Prop}
    (hS : ∀ (i : Nat) (o : Oper), ops[i]? = some o → S i → ∀ e ∈ edges o, S e) :
    ∀ (i : Nat) (o : Oper) (q : Opr), ops[i]? = some o → qs[i]? = some q → (∀ e ∈ edges o, S e) → ∀ p ∈ q.pre, S p := by
  intro i
  induction i using Nat.strongRecOn with
  | _ i ih =>
    intro o q ho hq he p hpq
    have hi : i < qs.length := by
      rcases Nat.lt_or_ge i qs.length with h | h
      · exact h
      · rw [List.getElem?_eq_none h] at hq; cases hq
    have := hp i hi
    unfold preOk at this
    simp only [ho, hq, Bool.and_eq_true, List.all_eq_true, decide_eq_true_eq, Bool.or_eq_true, List.any_eq_true] at this
    obtain ⟨h1, h2⟩ := this
    obtain ⟨h3, h4⟩ := h2 p hpq
    rcases h4 with h4 | ⟨e, h5, h6⟩
    · exact he p (by simpa using h4)
    · have hei := h1 e h5
      cases hqe : qs[e]? with
      | none => simp [hqe] at h6
      | some qe =>
        simp only [hqe] at h6
        have hel : e < ops.length := by omega
        exact ih e hei ops[e] qe (List.getElem?_eq_getElem hel) hqe (hS e _ (List.getElem?_eq_getElem hel) (he e h5)) p (by simpa using h6)

def lim (ρ : Env) (c : Nat) : Env := fun x => if x < c then ρ x else none
theorem lim_le (ρ : Env) (c : Nat) : (lim ρ c).le ρ := fun i L h => by
  unfold lim at h; split at h
  · exact h
  · cases h
theorem lim_mono (ρ : Env) {c c' : Nat} (h : c ≤ c') : (lim ρ c).le (lim ρ c') := fun i L hi => by
  unfold lim at hi ⊢
  split at hi
  · rw [if_pos (by omega)]; exact hi
  · cases hi
theorem lim_lt (ρ : Env) {c i : Nat} (h : i < c) : lim ρ c i = ρ i := by unfold lim; rw [if_pos h]
theorem lim_ge (ρ : Env) {c i : Nat} (h : c ≤ i) : lim ρ c i = none := by unfold lim; rw [if_neg (by omega)]

theorem mem_newer {n : Nat} : ∀ {m : Mem} {i : Nat} {B : Blk}, (i, B) ∈ newer n m → n ≤ i ∧ (i, B) ∈ m ∧ B.own
  | [], i, B, h => by simp [newer] at h
  | (j, D) :: r, i, B, h => by
    unfold newer at h
    cases hk : D.kind with
    | own e =>
      simp only [hk] at h
      split at h
      · rename_i hj
        rcases List.mem_cons.1 h with h | h
        · cases h
          refine ⟨hj, ?_, e, rfl⟩
          have : D = ⟨.own e, D.cells⟩ := by cases D; simp at hk; rw [hk]
          rw [← this]; exact List.mem_cons_self
        · obtain ⟨h1, h2, h3⟩ := mem_newer h; exact ⟨h1, List.mem_cons_of_mem _ h2, h3⟩
      · obtain ⟨h1, h2, h3⟩ := mem_newer h; exact ⟨h1, List.mem_cons_of_mem _ h2, h3⟩
    | view =>
      simp only [hk] at h
      obtain ⟨h1, h2, h3⟩ := mem_newer h; exact ⟨h1, List.mem_cons_of_mem _ h2, h3⟩

theorem mem_views : ∀ {m : Mem} {i : Nat} {B : Blk}, (i, B) ∈ views m → ∃ B0, (i, B0) ∈ m ∧ B = ⟨.view, B0.cells⟩
  | [], i, B, h => by simp [views] at h
  | (j, D) :: r, i, B, h => by
    simp only [views] at h
    rcases List.mem_cons.1 h with h | h
    · cases h; exact ⟨D, List.mem_cons_self, rfl⟩
    · obtain ⟨B0, h1, h2⟩ := mem_views h; exact ⟨B0, List.mem_cons_of_mem _ h1, h2⟩

theorem mem_pickD {done : List Dn} : ∀ {l : List Nat} {d : Dn}, d ∈ pickD done l ↔ ∃ j ∈ l, done[j]? = some d
  | [], d => by simp [pickD]
  | j :: r, d => by
    unfold pickD
    cases h : done[j]? with
    | none =>
      simp only
      rw [mem_pickD]
      constructor
      · rintro ⟨q, h1, h2⟩; exact ⟨q, List.mem_cons_of_mem _ h1, h2⟩
      · rintro ⟨q, h1, h2⟩
        rcases List.mem_cons.1 h1 with rfl | h1
        · rw [h] at h2; cases h2
        · exact ⟨q, h1, h2⟩
    | some d' =>
      simp only [List.mem_cons]
      rw [mem_pickD]
      constructor
      · rintro (rfl | ⟨q, h1, h2⟩)
        · exact ⟨j, .inl rfl, h⟩
        · exact ⟨q, .inr h1, h2⟩
      · rintro ⟨q, rfl | h1, h2⟩
        · rw [h] at h2; cases h2; exact .inl rfl
        · exact .inr ⟨q, h1, h2⟩

theorem mem_putO {fr : Fr} {dst : Option Nat} {v : SV} {x : Nat × SV} (h : x ∈ putO fr dst v) : (dst = some x.1 ∧ x.2 = v) ∨ (x ∈ fr ∧ dst ≠ some x.1) := by
  unfold putO at h
  cases dst with
  | none => exact .inr ⟨h, by simp⟩
  | some d =>
    simp only [put] at h
    rcases List.mem_cons.1 h with h | h
    · subst h; exact .inl ⟨rfl, rfl⟩
    · obtain ⟨h1, h2⟩ := mem_del h
      exact .inr ⟨h1, by simp; exact fun e => h2 e.symm⟩

theorem mem_frD : ∀ {l : List Dn} {fr : Fr} {d : Nat} {v : SV}, (d, v) ∈ frD l fr → (∃ D ∈ l, D.dst = some d ∧ v = D.v) ∨ ((d, v) ∈ fr ∧ ∀ D ∈ l, D.dst ≠ some d)
  | [], fr, d, v, h => .inr ⟨h, by simp⟩
  | D :: r, fr, d, v, h => by
    simp only [frD] at h
    rcases mem_putO h with ⟨h1, h2⟩ | ⟨h1, h2⟩
    · exact .inl ⟨D, List.mem_cons_self, h1, h2⟩
    · rcases mem_frD h1 with ⟨D', h3, h4⟩ | ⟨h3, h4⟩
      · exact .inl ⟨D', List.mem_cons_of_mem _ h3, h4⟩
      · refine .inr ⟨h3, fun D' hD' => ?_⟩
        rcases List.mem_cons.1 hD' with rfl | hD'
        · exact h2
        · exact h4 D' hD'

theorem mem_memD : ∀ {l : List Dn} {m : Mem} {x : Nat × Blk}, x ∈ memD l m → (∃ D ∈ l, x ∈ D.new) ∨ x ∈ m
  | [], m, x, h => .inr h
  | D :: r, m, x, h => by
    simp only [memD] at h
    rcases List.mem_append.1 h with h | h
    · exact .inl ⟨D, List.mem_cons_self, h⟩
    · rcases mem_memD h with ⟨D', h1, h2⟩ | h1
      · exact .inl ⟨D', List.mem_cons_of_mem _ h1, h2⟩
      · exact .inr h1

/-- what the walk in the order of the text shows of one operation -/
def StepOk (T : List (Nat × List SV)) (call : CallT) (fr0 : Fr) (m0 : Mem) (done : List Dn) (q : Opr) (d : Dn) : Prop :=
  d.dst = q.dst ∧ d.lo ≤ d.hi ∧
  ((∃ mm, d.new = newer d.lo mm ∧ exO T call (frD (pickD done q.pre) (dels fr0 q.hide)) (views (memD (pickD done q.pre) m0)) d.lo (fun a b c => a = d.v ∧ b = mm ∧ c = d.hi) q.op ∧
      (q.guard = none ∨ ∃ g b, q.guard = some (g, b) ∧ get (frD (pickD done q.pre) (dels fr0 q.hide)) g = .bool b)) ∨
   (d.v = .val undef ∧ d.new = [] ∧ d.hi = d.lo ∧ ∃ g b, q.guard = some (g, b) ∧
      (get (frD (pickD done q.pre) (dels fr0 q.hide)) g = .bool (!b) ∨ ∃ vs, get (frD (pickD done q.pre) (dels fr0 q.hide)) g = .val (.tuple vs))))

/-- the trace -/
theorem exA_trace {T : List (Nat × List SV)} {call : CallT} (hc : PointC call) {fr0 : Fr} {m0 : Mem} : ∀ (qs : List Opr) (done : List Dn) (n : Nat) (K : List Dn → Nat → Prop),
    exA T call fr0 m0 qs done n K → ∃ D n', K (done ++ D) n' ∧ D.length = qs.length ∧ n ≤ n' ∧
      (∀ (i : Nat) (q : Opr), qs[i]? = some q → ∃ d, D[i]? = some d ∧ StepOk T call fr0 m0 (done ++ D.take i) q d ∧ n ≤ d.lo ∧ d.hi ≤ n') ∧
      (∀ (i j : Nat) (di dj : Dn), i < j → D[i]? = some di → D[j]? = some dj → di.hi ≤ dj.lo)
  | [], done, n, K, h => ⟨[], n, by simpa [exA] using h, rfl, Nat.le_refl _, by simp, by simp⟩
  | q :: qs, done, n, K, h => by
    -- the rest, once this one has its outcome
    have rest : ∀ d : Dn, StepOk T call fr0 m0 done q d → d.lo = n → exA T call fr0 m0 qs (done ++ [d]) d.hi K → ∃ D n', K (done ++ D) n' ∧ D.length = (q :: qs).length ∧ n ≤ n' ∧
        (∀ (i : Nat) (q' : Opr), (q :: qs)[i]? = some q' → ∃ d, D[i]? = some d ∧ StepOk T call fr0 m0 (done ++ D.take i) q' d ∧ n ≤ d.lo ∧ d.hi ≤ n') ∧
        (∀ (i j : Nat) (di dj : Dn), i < j → D[i]? = some di → D[j]? = some dj → di.hi ≤ dj.lo) := by
      intro d hs hlo hr
      obtain ⟨D, n', h1, h2, h3, h4, h5⟩ := exA_trace hc qs _ _ K hr
      have hle := hs.2.1
      refine ⟨d :: D, n', by simpa using h1, by simp [h2], by omega, ?_, ?_⟩
      · intro i q' hq
        cases i with
        | zero => simp at hq; subst hq; exact ⟨d, rfl, by simpa using hs, by omega, h3⟩
        | succ i =>
          obtain ⟨d', g1, g2, g3, g4⟩ := h4 i q' (by simpa using hq)
          exact ⟨d', by simpa using g1, by simpa using g2, by omega, g4⟩
      · intro i j di dj hij hi hj
        cases j with
        | zero => omega
        | succ j =>
          cases i with
          | zero =>
            simp at hi; subst hi
            have hj' : D[j]? = some dj := by simpa using hj
            have hjl : j < qs.length := by
              rcases Nat.lt_or_ge j D.length with h | h
              · omega
              · rw [List.getElem?_eq_none h] at hj'; cases hj'
            obtain ⟨d', g1, g2, g3, g4⟩ := h4 j qs[j] (List.getElem?_eq_getElem hjl)
            rw [hj'] at g1; cases g1; exact g3
          | succ i => exact h5 i j di dj (by omega) (by simpa using hi) (by simpa using hj)
    simp only [exA] at h
    cases hg : q.guard with
    | none =>
      simp only [hg] at h
      obtain ⟨v, m', n1, ⟨h1, h2⟩, h3⟩ := exO_point hc h
      exact rest ⟨q.dst, v, newer n m', n, n1⟩ ⟨rfl, h1, .inl ⟨m', rfl, h3 _ ⟨rfl, rfl, rfl⟩, .inl hg⟩⟩ rfl h2
    | some gb =>
      obtain ⟨g, b⟩ := gb
      simp only [hg] at h
      split at h
      · rename_i t ht
        by_cases htb : t = b
        · obtain ⟨v, m', n1, ⟨h1, h2⟩, h3⟩ := exO_point hc (h.1 htb)
          exact rest ⟨q.dst, v, newer n m', n, n1⟩ ⟨rfl, h1, .inl ⟨m', rfl, h3 _ ⟨rfl, rfl, rfl⟩, .inr ⟨g, b, hg, by rw [ht, htb]⟩⟩⟩ rfl h2
        · have htb' : t = !b := by cases t <;> cases b <;> simp_all
          exact rest ⟨q.dst, .val undef, [], n, n⟩ ⟨rfl, Nat.le_refl _, .inr ⟨rfl, rfl, rfl, g, b, hg, .inl (by rw [ht, htb'])⟩⟩ rfl (h.2 htb')
      · rename_i vs ht
        exact rest ⟨q.dst, .val undef, [], n, n⟩ ⟨rfl, Nat.le_refl _, .inr ⟨rfl, rfl, rfl, g, b, hg, .inr ⟨vs, ht⟩⟩⟩ rfl h
      · exact h.elim

/-- the state of a region of which the operations S are done -/
structure InvD (C : Ctx) (N nn nl : Nat) (fr0 : Fr) (m0 : Mem) (D : List Dn) (S : Nat → Prop) (ρ : Env) (a : Act) (w : World) : Prop where
  base : ∀ d v, (d, v) ∈ fr0 → (∀ (j : Nat) Dj, D[j]? = some Dj → S j → Dj.dst ≠ some d) → ∃ x, a.tmps[d]? = some x ∧ v.is (lim ρ nn) x
  done : ∀ (j : Nat) Dj d, D[j]? = some Dj → S j → Dj.dst = some d → ∃ x, a.tmps[d]? = some x ∧ Dj.v.is (lim ρ Dj.hi) x
  oldB : ∀ i B, (i, B) ∈ m0 → i < nn ∧ ∃ L, ρ i = some L ∧ B.okAt (lim ρ nn) w L
  newB : ∀ (j : Nat) Dj, D[j]? = some Dj → S j → ∀ i B, (i, B) ∈ Dj.new → Dj.lo ≤ i ∧ i < Dj.hi ∧ ∃ L, ρ i = some L ∧ B.okAt (lim ρ Dj.hi) w L
  apart : ∀ i B j B' L L' b, ((i, B) ∈ m0 ∨ ∃ (q : Nat) (Dq : Dn), D[q]? = some Dq ∧ S q ∧ (i, B) ∈ Dq.new) → ((j, B') ∈ m0 ∨ ∃ (q : Nat) (Dq : Dn), D[q]? = some Dq ∧ S q ∧ (j, B') ∈ Dq.new) →
    i ≠ j → B.own → ρ i = some L → ρ j = some L' → L.blk = some b → L'.blk ≠ some b
  wrt : ∀ i B L b, ((i, B) ∈ m0 ∨ ∃ (q : Nat) (Dq : Dn), D[q]? = some Dq ∧ S q ∧ (i, B) ∈ Dq.new) → B.own → ρ i = some L → L.blk = some b → C.w0.heap.size ≤ b ∨ C.wr b
  fresh1 : ∀ (j : Nat) Dj, D[j]? = some Dj → ¬ S j → ∀ x, Dj.lo ≤ x → x < Dj.hi → ρ x = none
  fresh2 : ∀ x, nl ≤ x → ρ x = none
  size : C.w0.heap.size ≤ w.heap.size
  frame : ∀ b, b < C.w0.heap.size → ¬ C.wr b → w.heap[b]? = C.w0.heap[b]?
  keep : ∀ i, i < C.n0 → ρ i = C.ρ0 i
  side : w.os = C.w0.os ∧ w.output = C.w0.output
  defers : a.defers = []
  asize : a.tmps.size = N
end Go.Sx
