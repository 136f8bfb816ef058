/- The engine, part Sa: regions whose order is open and in which blocks are written: what the walk in the order of the text has to show. -/
import Derived.Test.YtflkcganpgjkkaaDoorEngS
namespace Go.Sx
open Go
set_option linter.unusedSimpArgs false
set_option linter.unusedVariables false

/-- an operation that is done: besides, the block that it has written, and the blocks that it has looked at (none: not known) -/
structure DW where
  d : Dn
  st : Option (Nat × Blk)
  tc : Option (List Nat)

def baseD : List DW → List Dn
  | [] => []
  | x :: r => x.d :: baseD r
def stBlk : List DW → List Nat
  | [] => []
  | x :: r => match x.st with
    | some (b, _) => b :: stBlk r
    | none => stBlk r
/-- the blocks that an operation looks at -/
def touch (fr : Fr) : SOp → Option (List Nat)
  | .mv _ | .ext _ _ | .nilc _ | .fld _ _ | .slcA _ _ _ _ _ | .new _ _ | .build _ _ => some []
  | .load _ x => match x.ev fr with
    | .ptr i _ => some [i]
    | .gp _ _ => some []
    | _ => none
  | .arrAt _ x => match x.ev fr with
    | .slc i _ _ _ _ => some [i]
    | _ => none
  | .idxS x _ _ => match x.ev fr with
    | .slc i _ _ _ _ => some [i]
    | _ => none
  | _ => none
def clear (tc : Option (List Nat)) (bs : List Nat) : Prop :=
  match bs with
  | [] => True
  | b :: r => match tc with
    | some l => (b :: r).all (fun b => !(l.contains b)) = true
    | none => False
def untouched (b : Nat) (pre : List Nat) : Nat → List DW → Prop
  | _, [] => True
  | q, x :: r => (match pre.contains q with
      | true => True
      | false => match x.tc with
        | some l => l.contains b = false
        | none => False) ∧ untouched b pre (q + 1) r
def updsW : List DW → Mem → Mem
  | [], m => m
  | x :: r, m => match x.st with
    | some (b, B) => upd (updsW r m) b B
    | none => updsW r m

def exW (T : List (Nat × List SV)) (call : CallT) (fr0 : Fr) (m0 : Mem) : List Opr → List DW → Nat → (List DW → Nat → Prop) → Prop
  | [], done, n, K => K done n
  | o :: r, done, n, K =>
    let frq := frD (pickD (baseD done) o.pre) (dels fr0 o.hide)
    let mq := memD (pickD (baseD done) o.pre) m0
    match o.op with
    | .store k a x => o.guard = none ∧ match a.ev frq with
      | .ptr b off => ∃ e cells l, rd mq b = some ⟨.own e, cells⟩ ∧ (x.ev frq).cells? = some l ∧ l.length = k ∧ off + k ≤ cells.length ∧ (stBlk done).contains b = false ∧ untouched b o.pre 0 done ∧
          exW T call fr0 m0 r (done ++ [⟨⟨o.dst, .any, [], n, n⟩, some (b, ⟨.own e, splice cells off l⟩), none⟩]) n K
      | _ => False
    | op => clear (touch frq op) (stBlk done) ∧ match o.guard with
      | none => exO T call frq (views mq) n (fun v m' n' => n ≤ n' ∧ exW T call fr0 m0 r (done ++ [⟨⟨o.dst, v, newer n m', n, n'⟩, none, touch frq op⟩]) n' K) op
      | some (g, b) =>
        match get frq g with
        | .bool t => (t = b → exO T call frq (views mq) n (fun v m' n' => n ≤ n' ∧ exW T call fr0 m0 r (done ++ [⟨⟨o.dst, v, newer n m', n, n'⟩, none, touch frq op⟩]) n' K) op) ∧
            (t = !b → exW T call fr0 m0 r (done ++ [⟨⟨o.dst, .val undef, [], n, n⟩, none, some []⟩]) n K)
        | .val (.tuple _) => exW T call fr0 m0 r (done ++ [⟨⟨o.dst, .val undef, [], n, n⟩, none, some []⟩]) n K
        | _ => False

/-- what the walk shows of one operation -/
def StepW (T : List (Nat × List SV)) (call : CallT) (fr0 : Fr) (m0 : Mem) (done : List DW) (q : Opr) (x : DW) : Prop :=
  (x.st = none ∧ clear x.tc (stBlk done) ∧ StepOk T call fr0 m0 (baseD done) q x.d ∧ (x.d.new ≠ [] ∨ True) ∧
    (x.tc = touch (frD (pickD (baseD done) q.pre) (dels fr0 q.hide)) q.op ∨ (x.d.v = .val undef ∧ x.d.new = [] ∧ x.d.hi = x.d.lo ∧ ∃ g b, q.guard = some (g, b) ∧
      (get (frD (pickD (baseD done) q.pre) (dels fr0 q.hide)) g = .bool (!b) ∨ ∃ vs, get (frD (pickD (baseD done) q.pre) (dels fr0 q.hide)) g = .val (.tuple vs))))) ∨
  (∃ k a y b off e cells l, q.op = .store k a y ∧ q.guard = none ∧ a.ev (frD (pickD (baseD done) q.pre) (dels fr0 q.hide)) = .ptr b off ∧
    rd (memD (pickD (baseD done) q.pre) m0) b = some ⟨.own e, cells⟩ ∧ (y.ev (frD (pickD (baseD done) q.pre) (dels fr0 q.hide))).cells? = some l ∧ l.length = k ∧ off + k ≤ cells.length ∧
    (stBlk done).contains b = false ∧ untouched b q.pre 0 done ∧ x.d.dst = q.dst ∧ x.d.v = .any ∧ x.d.new = [] ∧ x.d.hi = x.d.lo ∧ x.st = some (b, ⟨.own e, splice cells off l⟩) ∧ x.tc = none)

theorem baseD_append : ∀ {a b : List DW}, baseD (a ++ b) = baseD a ++ baseD b
  | [], b => rfl
  | x :: a, b => by simp only [List.cons_append, baseD, baseD_append]
theorem baseD_eq : ∀ (l : List DW), baseD l = l.map (·.d)
  | [] => rfl
  | x :: l => by simp only [baseD, baseD_eq l, List.map_cons]
theorem stBlk_append : ∀ {a b : List DW}, stBlk (a ++ b) = stBlk a ++ stBlk b
  | [], b => rfl
  | x :: a, b => by
    simp only [List.cons_append, stBlk]
    split <;> simp [stBlk_append]
theorem mem_stBlk : ∀ {l : List DW} {b : Nat}, b ∈ stBlk l ↔ ∃ x ∈ l, ∃ B, x.st = some (b, B)
  | [], b => by simp [stBlk]
  | x :: l, b => by
    simp only [stBlk, List.mem_cons, exists_eq_or_imp]
    split
    · rename_i b' B h
      simp only [List.mem_cons, mem_stBlk, h, Option.some.injEq, Prod.mk.injEq]
      constructor
      · rintro (rfl | h2)
        · exact .inl ⟨B, rfl, rfl⟩
        · exact .inr h2
      · rintro (⟨B', rfl, _⟩ | h2)
        · exact .inl rfl
        · exact .inr h2
    · rename_i h
      simp only [mem_stBlk, h, reduceCtorEq, exists_false, false_or]

theorem clear_of {tc : Option (List Nat)} {bs : List Nat} (h : clear tc bs) (hb : bs ≠ []) : ∃ l, tc = some l ∧ ∀ b ∈ bs, b ∉ l := by
  cases bs with
  | nil => exact absurd rfl hb
  | cons b r =>
    simp only [clear] at h
    split at h
    · rename_i l
      refine ⟨l, rfl, fun c hc => ?_⟩
      have := List.all_eq_true.1 h c hc
      simpa using this
    · exact h.elim
theorem untouched_get {b : Nat} {pre : List Nat} : ∀ {l : List DW} {o : Nat}, untouched b pre o l → ∀ (q : Nat) x, l[q]? = some x → pre.contains (o + q) = true ∨ ∃ t, x.tc = some t ∧ b ∉ t
  | y :: l, o, h, q, x, hx => by
    simp only [untouched] at h
    cases q with
    | zero =>
      simp at hx; subst hx
      have h1 := h.1
      split at h1
      · rename_i hc; exact .inl (by simpa using hc)
      · split at h1
        · rename_i t ht; exact .inr ⟨t, ht, by simpa using h1⟩
        · exact h1.elim
    | succ q =>
      have := untouched_get h.2 q x (by simpa using hx)
      rwa [show o + 1 + q = o + (q + 1) by omega] at this
  | [], _, _, q, x, hx => by simp at hx

/-- the trace -/
theorem exW_trace {T : List (Nat × List SV)} {call : CallT} (hc : PointC call) {fr0 : Fr} {m0 : Mem} : ∀ (qs : List Opr) (done : List DW) (n : Nat) (K : List DW → Nat → Prop),
    exW T call fr0 m0 qs done n K → ∃ D n', K (done ++ D) n' ∧ D.length = qs.length ∧ n ≤ n' ∧
      (∀ (i : Nat) (q : Opr), qs[i]? = some q → ∃ x, D[i]? = some x ∧ StepW T call fr0 m0 (done ++ D.take i) q x ∧ x.d.dst = q.dst ∧ n ≤ x.d.lo ∧ x.d.lo ≤ x.d.hi ∧ x.d.hi ≤ n') ∧
      (∀ (i j : Nat) (di dj : DW), i < j → D[i]? = some di → D[j]? = some dj → di.d.hi ≤ dj.d.lo)
  | [], done, n, K, h => ⟨[], n, by simpa [exW] using h, rfl, Nat.le_refl _, by simp, by simp⟩
  | q :: qs, done, n, K, h => by
    have rest : ∀ x : DW, StepW T call fr0 m0 done q x → x.d.dst = q.dst → x.d.lo ≤ x.d.hi → x.d.lo = n → exW T call fr0 m0 qs (done ++ [x]) x.d.hi K → ∃ D n', K (done ++ D) n' ∧ D.length = (q :: qs).length ∧ n ≤ n' ∧
        (∀ (i : Nat) (q' : Opr), (q :: qs)[i]? = some q' → ∃ x, D[i]? = some x ∧ StepW T call fr0 m0 (done ++ D.take i) q' x ∧ x.d.dst = q'.dst ∧ n ≤ x.d.lo ∧ x.d.lo ≤ x.d.hi ∧ x.d.hi ≤ n') ∧
        (∀ (i j : Nat) (di dj : DW), i < j → D[i]? = some di → D[j]? = some dj → di.d.hi ≤ dj.d.lo) := by
      intro d hs hdst hle hlo hr
      obtain ⟨D, n', h1, h2, h3, h4, h5⟩ := exW_trace hc qs _ _ K hr
      refine ⟨d :: D, n', by simpa using h1, by simp [h2], by omega, ?_, ?_⟩
      · intro i q' hq
        cases i with
        | zero => simp at hq; subst hq; exact ⟨d, rfl, by simpa using hs, hdst, by omega, hle, h3⟩
        | succ i =>
          obtain ⟨d', g1, g2, g3, g4, g5, g6⟩ := h4 i q' (by simpa using hq)
          exact ⟨d', by simpa using g1, by simpa using g2, g3, by omega, g5, g6⟩
      · intro i j di dj hij hi hj
        cases j with
        | zero => omega
        | succ j =>
          cases i with
          | zero =>
            simp at hi; subst hi
            have hj' : D[j]? = some dj := by simpa using hj
            have hjl : j < qs.length := by
              rcases Nat.lt_or_ge j D.length with h | h
              · omega
              · rw [List.getElem?_eq_none h] at hj'; cases hj'
            obtain ⟨d', g1, g2, g3, g4, _⟩ := h4 j qs[j] (List.getElem?_eq_getElem hjl)
            rw [hj'] at g1; cases g1; exact g4
          | succ i => exact h5 i j di dj (by omega) (by simpa using hi) (by simpa using hj)
    unfold exW at h
    simp only at h
    split at h
    · rename_i k a y hop
      obtain ⟨hg, h⟩ := h
      split at h
      · rename_i b off hab
        obtain ⟨e, cells, l, h1, h2, h3, h4, h5, h6, h7⟩ := h
        exact rest ⟨⟨q.dst, .any, [], n, n⟩, some (b, ⟨.own e, splice cells off l⟩), none⟩ (.inr ⟨k, a, y, b, off, e, cells, l, hop, hg, hab, h1, h2, h3, h4, h5, h6, rfl, rfl, rfl, rfl, rfl, rfl⟩) rfl (Nat.le_refl _) rfl h7
      · exact h.elim
    · rename_i hne
      obtain ⟨hcl, h⟩ := h
      cases hg : q.guard with
      | none =>
        simp only [hg] at h
        obtain ⟨v, m', n1, ⟨h1, h2⟩, h3⟩ := exO_point hc h
        exact rest ⟨⟨q.dst, v, newer n m', n, n1⟩, none, touch (frD (pickD (baseD done) q.pre) (dels fr0 q.hide)) q.op⟩ (.inl ⟨rfl, hcl, ⟨rfl, h1, .inl ⟨m', rfl, h3 _ ⟨rfl, rfl, rfl⟩, .inl hg⟩⟩, .inr trivial, .inl rfl⟩) rfl h1 rfl h2
      | some gb =>
        obtain ⟨g, b⟩ := gb
        simp only [hg] at h
        have hcl0 : clear (some []) (stBlk done) := by
          unfold clear
          split
          · trivial
          · simp
        split at h
        · rename_i t ht
          by_cases htb : t = b
          · obtain ⟨v, m', n1, ⟨h1, h2⟩, h3⟩ := exO_point hc (h.1 htb)
            exact rest ⟨⟨q.dst, v, newer n m', n, n1⟩, none, touch (frD (pickD (baseD done) q.pre) (dels fr0 q.hide)) q.op⟩ (.inl ⟨rfl, hcl, ⟨rfl, h1, .inl ⟨m', rfl, h3 _ ⟨rfl, rfl, rfl⟩, .inr ⟨g, b, hg, by rw [ht, htb]⟩⟩⟩, .inr trivial, .inl rfl⟩) rfl h1 rfl h2
          · have htb' : t = !b := by cases t <;> cases b <;> simp_all
            exact rest ⟨⟨q.dst, .val undef, [], n, n⟩, none, some []⟩ (.inl ⟨rfl, hcl0, ⟨rfl, Nat.le_refl _, .inr ⟨rfl, rfl, rfl, g, b, hg, .inl (by rw [ht, htb'])⟩⟩, .inr trivial, .inr ⟨rfl, rfl, rfl, g, b, hg, .inl (by rw [ht, htb'])⟩⟩) rfl (Nat.le_refl _) rfl (h.2 htb')
        · rename_i vs ht
          exact rest ⟨⟨q.dst, .val undef, [], n, n⟩, none, some []⟩ (.inl ⟨rfl, hcl0, ⟨rfl, Nat.le_refl _, .inr ⟨rfl, rfl, rfl, g, b, hg, .inr ⟨vs, ht⟩⟩⟩, .inr trivial, .inr ⟨rfl, rfl, rfl, g, b, hg, .inr ⟨vs, ht⟩⟩⟩) rfl (Nat.le_refl _) rfl h
        · exact h.elim

/-- memory without some blocks -/
def restr (keep : Nat → Prop) [DecidablePred keep] : Mem → Mem
  | [] => []
  | (i, B) :: r => if keep i then (i, B) :: restr keep r else restr keep r
theorem mem_restr {keep : Nat → Prop} [DecidablePred keep] : ∀ {m : Mem} {i : Nat} {B : Blk}, (i, B) ∈ restr keep m → (i, B) ∈ m ∧ keep i
  | (j, D) :: r, i, B, h => by
    unfold restr at h
    split at h
    · rename_i hk
      rcases List.mem_cons.1 h with h | h
      · cases h; exact ⟨List.mem_cons_self, hk⟩
      · obtain ⟨h1, h2⟩ := mem_restr h; exact ⟨List.mem_cons_of_mem _ h1, h2⟩
    · obtain ⟨h1, h2⟩ := mem_restr h; exact ⟨List.mem_cons_of_mem _ h1, h2⟩
  | [], i, B, h => by simp [restr] at h
theorem rd_restr {keep : Nat → Prop} [DecidablePred keep] : ∀ {m : Mem} {i : Nat}, keep i → rd (restr keep m) i = rd m i
  | [], i, _ => rfl
  | (j, D) :: r, i, h => by
    unfold restr
    by_cases hk : keep j
    · rw [if_pos hk]; unfold rd; rw [rd_restr h]
    · rw [if_neg hk, rd_restr h]
      have : j ≠ i := fun e => hk (e ▸ h)
      conv => rhs; unfold rd
      rw [if_neg this]
theorem newer_vws {n : Nat} : ∀ {m : Mem}, newer n (views m) = []
  | [] => rfl
  | (i, B) :: r => by simp only [views, newer, newer_vws]
theorem newer_restr_views {n : Nat} {keep : Nat → Prop} [DecidablePred keep] : ∀ {m : Mem}, newer n (restr keep (views m)) = []
  | [] => rfl
  | (i, B) :: r => by
    simp only [views, restr]
    split
    · simp only [newer, newer_restr_views]
    · exact newer_restr_views

/-- an operation that looks at certain blocks alone does not mind what else there is -/
theorem exO_restr {T : List (Nat × List SV)} {call : CallT} {fr : Fr} {m : Mem} {n : Nat} {keep : Nat → Prop} [DecidablePred keep] {op : SOp} {l : List Nat} (ht : touch fr op = some l) (hl : ∀ i ∈ l, keep i)
    {v : SV} {mm : Mem} {hi : Nat} (h : exO T call fr (views m) n (fun a b c => a = v ∧ b = mm ∧ c = hi) op) :
    ∃ mm', newer n mm' = newer n mm ∧ exO T call fr (restr keep (views m)) n (fun a b c => a = v ∧ b = mm' ∧ c = hi) op := by
  have same : newer n (restr keep (views m)) = newer n (views m) := by rw [newer_vws, newer_restr_views]
  cases op with
  | mv x => simp only [exO] at h ⊢; obtain ⟨h1, rfl, h3⟩ := h; exact ⟨_, same, h1, rfl, h3⟩
  | ext x i =>
    simp only [exO] at h ⊢
    split at h
    · obtain ⟨w, h0, h1, rfl, h3⟩ := h; exact ⟨_, same, w, h0, h1, rfl, h3⟩
    · exact h.elim
  | nilc x =>
    simp only [exO] at h ⊢
    split at h
    · obtain ⟨h1, rfl, h3⟩ := h; exact ⟨_, same, h1, rfl, h3⟩
    · obtain ⟨h1, rfl, h3⟩ := h; exact ⟨_, same, h1, rfl, h3⟩
    · obtain ⟨h1, rfl, h3⟩ := h; exact ⟨_, same, h1, rfl, h3⟩
    · exact h.elim
  | fld x o =>
    simp only [exO] at h ⊢
    split at h
    · obtain ⟨h1, rfl, h3⟩ := h; exact ⟨_, same, h1, rfl, h3⟩
    · obtain ⟨h1, rfl, h3⟩ := h; exact ⟨_, same, h1, rfl, h3⟩
    · exact h.elim
  | slcA k s x lo hi' =>
    simp only [exO, onOpt, onInt] at h ⊢
    split at h
    · rename_i b o hx
      cases lo with
      | none =>
        cases hi' with
        | none => obtain ⟨g1, g2, g3, h1, rfl, h3⟩ := h; exact ⟨_, same, g1, g2, g3, h1, rfl, h3⟩
        | some y =>
          simp only at h ⊢
          split at h
          · obtain ⟨g1, g2, g3, h1, rfl, h3⟩ := h; exact ⟨_, same, g1, g2, g3, h1, rfl, h3⟩
          · exact h.elim
      | some z =>
        simp only at h ⊢
        split at h
        · cases hi' with
          | none => obtain ⟨g1, g2, g3, h1, rfl, h3⟩ := h; exact ⟨_, same, g1, g2, g3, h1, rfl, h3⟩
          | some y =>
            simp only at h ⊢
            split at h
            · obtain ⟨g1, g2, g3, h1, rfl, h3⟩ := h; exact ⟨_, same, g1, g2, g3, h1, rfl, h3⟩
            · exact h.elim
        · exact h.elim
    · exact h.elim
  | new e z =>
    simp only [exO] at h ⊢
    obtain ⟨h1, rfl, h3⟩ := h
    exact ⟨_, by simp only [newer, same], h1, rfl, h3⟩
  | build z ps =>
    simp only [exO] at h ⊢
    obtain ⟨r, g1, g2⟩ := fillS_point _ _ _ h
    obtain ⟨h1, rfl, h3⟩ := g1
    exact ⟨_, same, fillS_mono (fun x hx => by subst hx; exact ⟨h1, rfl, h3⟩) _ _ g2⟩
  | load g x =>
    simp only [touch] at ht
    simp only [exO] at h ⊢
    split at h
    · rename_i i o hx
      simp only [hx, Option.some.injEq] at ht; subst ht
      obtain ⟨B, hB, h⟩ := h
      have hB' : rd (restr keep (views m)) i = some B := by rw [rd_restr (hl i (by simp))]; exact hB
      cases g with
      | none => obtain ⟨w, h0, h1, rfl, h3⟩ := h; exact ⟨_, same, B, hB', w, h0, h1, rfl, h3⟩
      | some k => obtain ⟨h0, h1, rfl, h3⟩ := h; exact ⟨_, same, B, hB', h0, h1, rfl, h3⟩
    · obtain ⟨cs, hcs, h⟩ := h
      cases g with
      | none => obtain ⟨w, h0, h1, rfl, h3⟩ := h; exact ⟨_, same, cs, hcs, w, h0, h1, rfl, h3⟩
      | some k => obtain ⟨h0, h1, rfl, h3⟩ := h; exact ⟨_, same, cs, hcs, h0, h1, rfl, h3⟩
    · exact h.elim
  | arrAt k x =>
    simp only [touch] at ht
    simp only [exO] at h ⊢
    split at h
    · rename_i b o _ len _ hx
      simp only [hx, Option.some.injEq] at ht; subst ht
      obtain ⟨g1, g2, ⟨B, hB, g3⟩, h1, rfl, h3⟩ := h
      exact ⟨_, same, g1, g2, ⟨B, by rw [rd_restr (hl b (by simp))]; exact hB, g3⟩, h1, rfl, h3⟩
    · exact h.elim
  | idxS x i s =>
    simp only [touch] at ht
    simp only [exO, onInt] at h ⊢
    split at h
    · split at h
      · rename_i b o s' len cap hx
        simp only [hx, Option.some.injEq] at ht; subst ht
        obtain ⟨g1, g2, g3, B, hB, g4, h1, rfl, h3⟩ := h
        exact ⟨_, same, g1, g2, g3, B, by rw [rd_restr (hl b (by simp))]; exact hB, g4, h1, rfl, h3⟩
      · exact h.elim
    · exact h.elim
  | _ => simp [touch] at ht
end Go.Sx
