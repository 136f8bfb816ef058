/- The engine, part Sb: regions whose order is open and in which blocks are written: one operation, at whatever time it comes. -/
import Derived.Test.YtflkcganpgjkkaaDoorEngSa
namespace Go.Sx
open Go
set_option linter.unusedSimpArgs false
set_option linter.unusedVariables false

def Stored (D : List DW) (S : Nat → Prop) (i : Nat) : Prop := ∃ (j : Nat) (x : DW) (B : Blk), D[j]? = some x ∧ S j ∧ x.st = some (i, B)
def Entry (m0 : Mem) (D : List DW) (S : Nat → Prop) (i : Nat) (B : Blk) : Prop := (i, B) ∈ m0 ∨ ∃ (q : Nat) (x : DW), D[q]? = some x ∧ S q ∧ (i, B) ∈ x.d.new

/-- the state of a region of which the operations S are done -/
structure InvW (C : Ctx) (N nn nl : Nat) (fr0 : Fr) (m0 : Mem) (D : List DW) (S : Nat → Prop) (ρ : Env) (a : Act) (w : World) : Prop where
  base : ∀ d v, (d, v) ∈ fr0 → (∀ (j : Nat) (x : DW), D[j]? = some x → S j → x.d.dst ≠ some d) → ∃ y, a.tmps[d]? = some y ∧ v.is (lim ρ nn) y
  done : ∀ (j : Nat) (x : DW) d, D[j]? = some x → S j → x.d.dst = some d → ∃ y, a.tmps[d]? = some y ∧ x.d.v.is (lim ρ x.d.hi) y
  oldB : ∀ i B, (i, B) ∈ m0 → i < nn ∧ ∃ L, ρ i = some L ∧ (¬ Stored D S i → B.okAt (lim ρ nn) w L)
  newB : ∀ (j : Nat) (x : DW), D[j]? = some x → S j → ∀ i B, (i, B) ∈ x.d.new → x.d.lo ≤ i ∧ i < x.d.hi ∧ ∃ L, ρ i = some L ∧ (¬ Stored D S i → B.okAt (lim ρ x.d.hi) w L)
  stB : ∀ (j : Nat) (x : DW) i B, D[j]? = some x → S j → x.st = some (i, B) → (∃ e, B.kind = .own e) ∧ (∃ B0, Entry m0 D S i B0 ∧ B0.own) ∧ ∃ L, ρ i = some L ∧ B.okAt (lim ρ x.d.hi) w L
  apart : ∀ i B j B' L L' b, Entry m0 D S i B → Entry m0 D S j B' → i ≠ j → B.own → ρ i = some L → ρ j = some L' → L.blk = some b → L'.blk ≠ some b
  wrt : ∀ i B L b, Entry m0 D S i B → B.own → ρ i = some L → L.blk = some b → C.w0.heap.size ≤ b ∨ C.wr b
  fresh1 : ∀ (j : Nat) (x : DW), D[j]? = some x → ¬ S j → ∀ k, x.d.lo ≤ k → k < x.d.hi → ρ k = none
  fresh2 : ∀ k, nl ≤ k → ρ k = none
  size : C.w0.heap.size ≤ w.heap.size
  frame : ∀ b, b < C.w0.heap.size → ¬ C.wr b → w.heap[b]? = C.w0.heap[b]?
  keep : ∀ i, i < C.n0 → ρ i = C.ρ0 i
  side : w.os = C.w0.os ∧ w.output = C.w0.output
  defers : a.defers = []
  asize : a.tmps.size = N

theorem baseD_get {D : List DW} {j : Nat} {d : Dn} : (baseD D)[j]? = some d ↔ ∃ x, D[j]? = some x ∧ x.d = d := by
  rw [baseD_eq, List.getElem?_map, Option.map_eq_some_iff]

section
variable {C : Ctx} {N nn nl : Nat} {fr0 : Fr} {m0 : Mem} {D : List DW} {S : Nat → Prop} {ρ : Env} {a : Act} {w : World}

theorem okAt_blk {ρ : Env} {w : World} {B : Blk} {L : Loc} {b : Nat} (h : B.okAt ρ w L) (hb : L.blk = some b) : b < w.heap.size := by
  unfold Blk.okAt at h; rw [hb] at h; exact h.1

/-- where a block lies that is there -/
theorem InvW.there (I : InvW C N nn nl fr0 m0 D S ρ a w) {x : Nat} {B : Blk} (h : Entry m0 D S x B) : ∃ L, ρ x = some L ∧ ∀ b, L.blk = some b → b < w.heap.size := by
  have hx : ∃ L, ρ x = some L ∧ (¬ Stored D S x → ∃ c, B.okAt (lim ρ c) w L) := by
    rcases h with h | ⟨q, y, g1, g2, g3⟩
    · obtain ⟨_, L, e1, e2⟩ := I.oldB x B h; exact ⟨L, e1, fun h => ⟨_, e2 h⟩⟩
    · obtain ⟨_, _, L, e1, e2⟩ := I.newB q y g1 g2 x B g3; exact ⟨L, e1, fun h => ⟨_, e2 h⟩⟩
  obtain ⟨L, e1, e2⟩ := hx
  refine ⟨L, e1, fun b hb => ?_⟩
  by_cases hs : Stored D S x
  · obtain ⟨j, y, B', g1, g2, g3⟩ := hs
    obtain ⟨_, _, L', e3, e4⟩ := I.stB j y x B' g1 g2 g3
    rw [e1] at e3; cases e3
    exact okAt_blk e4 hb
  · obtain ⟨c, h⟩ := e2 hs
    exact okAt_blk h hb

theorem InvW.ctx (I : InvW C N nn nl fr0 m0 D S ρ a w) (X : CtxOk C) (lo : Nat) : CtxOk (ctxD C ρ lo w) := by
  constructor
  · intro g cs h
    obtain ⟨h1, h2⟩ := X.tab g cs h
    refine ⟨Nat.lt_of_lt_of_le h1 I.size, fun j v hj => ?_⟩
    obtain ⟨x, q1, q2, q3⟩ := h2 j v hj
    exact ⟨x, by rw [← q1]; exact cell?_of_heap (I.frame g h1 (X.nwr g cs h)), q2, q3⟩
  · intro g cs _ h; exact h

/-- the slots that an operation sees -/
theorem InvW.fr (I : InvW C N nn nl fr0 m0 D S ρ a w) {pre hide : List Nat} {lo : Nat} (hnn : nn ≤ lo) (hpre : ∀ p ∈ pre, S p) (hlo : ∀ p ∈ pre, ∀ x, D[p]? = some x → x.d.hi ≤ lo)
    (hhide : ∀ (j : Nat) (x : DW) d, D[j]? = some x → S j → x.d.dst = some d → d ∈ hide ∨ j ∈ pre) :
    ∀ d v, (d, v) ∈ frD (pickD (baseD D) pre) (dels fr0 hide) → ∃ y, a.tmps[d]? = some y ∧ v.is (lim ρ lo) y := by
  intro d v h
  rcases mem_frD h with ⟨Dj, h1, h2, rfl⟩ | ⟨h1, h2⟩
  · obtain ⟨j, hj, hDj⟩ := mem_pickD.1 h1
    obtain ⟨x, hx, rfl⟩ := baseD_get.1 hDj
    obtain ⟨y, e1, e2⟩ := I.done j x d hx (hpre j hj) h2
    exact ⟨y, e1, SV.is_mono (lim_mono ρ (hlo j hj x hx)) _ _ e2⟩
  · obtain ⟨h3, h4⟩ := mem_dels h1
    obtain ⟨y, e1, e2⟩ := I.base d v h3 (fun j x hx hS hdst => by
      rcases hhide j x d hx hS hdst with h5 | h5
      · exact h4 h5
      · exact h2 x.d (mem_pickD.2 ⟨j, h5, baseD_get.2 ⟨x, hx, rfl⟩⟩) hdst)
    exact ⟨y, e1, SV.is_mono (lim_mono ρ hnn) _ _ e2⟩

/-- the blocks that an operation sees -/
theorem InvW.see (I : InvW C N nn nl fr0 m0 D S ρ a w) {pre : List Nat} {lo : Nat} (hnn : nn ≤ lo) (hpre : ∀ p ∈ pre, S p) (hlo : ∀ p ∈ pre, ∀ x, D[p]? = some x → x.d.hi ≤ lo)
    {i : Nat} {B : Blk} (h : (i, B) ∈ memD (pickD (baseD D) pre) m0) : Entry m0 D S i B ∧ i < lo ∧ ∃ L, ρ i = some L ∧ (¬ Stored D S i → B.okAt (lim ρ lo) w L) := by
  rcases mem_memD h with ⟨Dj, h2, h3⟩ | h2
  · obtain ⟨j, hj, hDj⟩ := mem_pickD.1 h2
    obtain ⟨x, hx, rfl⟩ := baseD_get.1 hDj
    obtain ⟨g1, g2, L, g3, g4⟩ := I.newB j x hx (hpre j hj) i B h3
    have := hlo j hj x hx
    exact ⟨.inr ⟨j, x, hx, hpre j hj, h3⟩, by omega, L, g3, fun hs => (g4 hs).mono (lim_mono ρ this) (fun _ _ => rfl) (Nat.le_refl _)⟩
  · obtain ⟨g1, L, g3, g4⟩ := I.oldB i B h2
    exact ⟨.inl h2, by omega, L, g3, fun hs => (g4 hs).mono (lim_mono ρ hnn) (fun _ _ => rfl) (Nat.le_refl _)⟩

theorem InvW.rel (I : InvW C N nn nl fr0 m0 D S ρ a w) {pre hide : List Nat} {lo : Nat} (hnn : nn ≤ lo) (hpre : ∀ p ∈ pre, S p) (hlo : ∀ p ∈ pre, ∀ x, D[p]? = some x → x.d.hi ≤ lo)
    (hhide : ∀ (j : Nat) (x : DW) d, D[j]? = some x → S j → x.d.dst = some d → d ∈ hide ∨ j ∈ pre) [DecidablePred fun i => ¬ Stored D S i] :
    Rel (ctxD C ρ lo w) N (lim ρ lo) (frD (pickD (baseD D) pre) (dels fr0 hide)) (restr (fun i => ¬ Stored D S i) (views (memD (pickD (baseD D) pre) m0))) lo a w := by
  constructor
  · exact I.fr hnn hpre hlo hhide
  · constructor
    · intro i B h
      obtain ⟨h1, hk⟩ := mem_restr h
      obtain ⟨B0, h2, rfl⟩ := mem_views h1
      obtain ⟨_, g1, L, g3, g4⟩ := I.see hnn hpre hlo h2
      exact ⟨L, by rw [lim_lt _ g1]; exact g3, okAt_view (g4 hk) (Env.le_refl _)⟩
    · intro i B j B' L L' b h _ _ ho
      obtain ⟨B0, _, rfl⟩ := mem_views (mem_restr h).1
      obtain ⟨e, he⟩ := ho; cases he
    · intro i hi; exact lim_ge ρ hi
    · intro i B L b h ho
      obtain ⟨B0, _, rfl⟩ := mem_views (mem_restr h).1
      obtain ⟨e, he⟩ := ho; cases he
    · exact Nat.le_refl _
    · intro b _ _; rfl
    · intro i _; rfl
    · exact ⟨rfl, rfl⟩
  · exact I.defers
  · exact I.asize
  · exact Nat.le_refl _

theorem stored_none {i : Nat} {Di : DW} (hi : D[i]? = some Di) (hst : Di.st = none) {k : Nat} : Stored D (fun j => S j ∨ j = i) k ↔ Stored D S k := by
  constructor
  · rintro ⟨j, x, B, h1, h2 | rfl, h3⟩
    · exact ⟨j, x, B, h1, h2, h3⟩
    · rw [hi] at h1; cases h1; rw [hst] at h3; cases h3
  · rintro ⟨j, x, B, h1, h2, h3⟩; exact ⟨j, x, B, h1, .inl h2, h3⟩

/-- the state with one operation more -/
theorem InvW.step (I : InvW C N nn nl fr0 m0 D S ρ a w) {i : Nat} {Di : DW} (hi : D[i]? = some Di) (hst : Di.st = none) (hSi : ¬ S i) (hnn : nn ≤ Di.d.lo) (hle : Di.d.lo ≤ Di.d.hi) (hnl : Di.d.hi ≤ nl) (hn0 : C.n0 ≤ nn)
    (hdist : ∀ (j : Nat) (x : DW) d, D[j]? = some x → j ≠ i → x.d.dst = some d → Di.d.dst ≠ some d) (hdN : ∀ d, Di.d.dst = some d → d < N)
    (hdisj : ∀ (j : Nat) (x : DW), D[j]? = some x → j ≠ i → x.d.hi ≤ Di.d.lo ∨ Di.d.hi ≤ x.d.lo)
    {ρ' : Env} {y : Value} {w' : World} {mm : Mem} (h1 : (lim ρ Di.d.lo).le ρ') (h2 : Di.d.new = newer Di.d.lo mm) (h3 : Di.d.v.is ρ' y) (h4 : MemOk (ctxD C ρ Di.d.lo w) ρ' mm Di.d.hi w') :
    ∃ ρ'', InvW C N nn nl fr0 m0 D (fun j => S j ∨ j = i) ρ'' (a.put Di.d.dst y) w' := by
  let ρ2 : Env := fun x => if Di.d.lo ≤ x ∧ x < Di.d.hi then ρ' x else ρ x
  have hfr : ∀ x, Di.d.lo ≤ x → x < Di.d.hi → ρ x = none := I.fresh1 i Di hi hSi
  have hout : ∀ x, ¬ (Di.d.lo ≤ x ∧ x < Di.d.hi) → ρ2 x = ρ x := fun x hx => by simp only [ρ2]; rw [if_neg hx]
  have hin : ∀ x, Di.d.lo ≤ x → x < Di.d.hi → ρ2 x = ρ' x := fun x h h' => by simp only [ρ2]; rw [if_pos ⟨h, h'⟩]
  have hle2 : ρ.le ρ2 := fun x L hx => by
    by_cases hc : Di.d.lo ≤ x ∧ x < Di.d.hi
    · rw [hfr x hc.1 hc.2] at hx; cases hx
    · rw [hout x hc]; exact hx
  have hlim : ∀ c, (lim ρ c).le (lim ρ2 c) := fun c x L hx => by
    unfold lim at hx ⊢
    split at hx
    · rename_i hxc; rw [if_pos hxc]; exact hle2 x L hx
    · cases hx
  have hnew : ρ'.le (lim ρ2 Di.d.hi) := fun x L hx => by
    have hxh : x < Di.d.hi := by
      rcases Nat.lt_or_ge x Di.d.hi with h | h
      · exact h
      · rw [h4.fresh x h] at hx; cases hx
    rw [lim_lt _ hxh]
    by_cases hxl : Di.d.lo ≤ x
    · rw [hin x hxl hxh]; exact hx
    · rw [hout x (by omega)]
      have := h4.keep x (by simp only [ctxD]; omega)
      rw [this] at hx
      simp only [ctxD] at hx
      rw [lim_lt _ (by omega)] at hx; exact hx
  have hold : ∀ b, b < w.heap.size → w'.heap[b]? = w.heap[b]? := fun b hb => h4.frame b hb (fun h => h)
  have hsz : w.heap.size ≤ w'.heap.size := h4.size
  have okOld : ∀ {c : Nat} {B : Blk} {L : Loc}, B.okAt (lim ρ c) w L → B.okAt (lim ρ2 c) w' L := fun {c B L} h =>
    h.mono (hlim c) (fun b hb => hold b (okAt_blk h hb)) hsz
  have stEq : ∀ k, Stored D (fun j => S j ∨ j = i) k ↔ Stored D S k := fun k => stored_none hi hst
  -- an old block: where it lies
  have old : ∀ x B, Entry m0 D S x B → ρ2 x = ρ x ∧ ∀ L b, ρ x = some L → L.blk = some b → b < w.heap.size := by
    intro x B h
    obtain ⟨L, e1, e2⟩ := I.there h
    refine ⟨hout x (fun hc => by rw [hfr x hc.1 hc.2] at e1; cases e1), fun L' b hL' hb => ?_⟩
    rw [e1] at hL'; cases hL'; exact e2 b hb
  -- a new block: where it lies
  have new : ∀ x B, (x, B) ∈ Di.d.new → Di.d.lo ≤ x ∧ x < Di.d.hi ∧ (x, B) ∈ mm ∧ B.own ∧ ρ2 x = ρ' x ∧ ∀ L b, ρ' x = some L → L.blk = some b → w.heap.size ≤ b := by
    intro x B h
    rw [h2] at h
    obtain ⟨g1, g2, g3⟩ := mem_newer h
    obtain ⟨L, e1, e2⟩ := h4.blk x B g2
    have hxh : x < Di.d.hi := by
      rcases Nat.lt_or_ge x Di.d.hi with h | h
      · exact h
      · rw [h4.fresh x h] at e1; cases e1
    refine ⟨g1, hxh, g2, g3, hin x g1 hxh, fun L' b hL' hb => ?_⟩
    rcases h4.wrt x B L' b g2 g3 hL' hb with q | q
    · exact q
    · exact q.elim
  have split : ∀ x B, Entry m0 D (fun j => S j ∨ j = i) x B → Entry m0 D S x B ∨ (x, B) ∈ Di.d.new := by
    intro x B h
    rcases h with h | ⟨q, Dq, g1, g2 | rfl, g3⟩
    · exact .inl (.inl h)
    · exact .inl (.inr ⟨q, Dq, g1, g2, g3⟩)
    · rw [hi] at g1; cases g1; exact .inr g3
  refine ⟨ρ2, ?_⟩
  constructor
  · intro d v hd hn
    obtain ⟨x, e1, e2⟩ := I.base d v hd (fun j Dj hj hS => hn j Dj hj (.inl hS))
    refine ⟨x, ?_, SV.is_mono (hlim nn) _ _ e2⟩
    have := hn i Di hi (.inr rfl)
    unfold Act.put
    split
    · rename_i t ht; rw [Array.getElem?_setIfInBounds_ne (fun e => this (by rw [ht, e]))]; exact e1
    · exact e1
  · intro j Dj d hj hS hd
    rcases hS with hS | rfl
    · obtain ⟨x, e1, e2⟩ := I.done j Dj d hj hS hd
      refine ⟨x, ?_, SV.is_mono (hlim _) _ _ e2⟩
      have := hdist j Dj d hj (fun e => hSi (e ▸ hS)) hd
      unfold Act.put
      split
      · rename_i t ht; rw [Array.getElem?_setIfInBounds_ne (fun e => this (by rw [ht, e]))]; exact e1
      · exact e1
    · rw [hi] at hj; cases hj
      refine ⟨y, ?_, SV.is_mono hnew _ _ h3⟩
      have := hdN d hd
      simp [Act.put, hd, I.asize, this]
  · intro x B h
    obtain ⟨g1, L, g3, g4⟩ := I.oldB x B h
    exact ⟨g1, L, by rw [(old x B (.inl h)).1]; exact g3, fun hs => okOld (g4 (fun h => hs ((stEq x).2 h)))⟩
  · intro j Dj hj hS x B h
    rcases hS with hS | rfl
    · obtain ⟨g1, g2, L, g3, g4⟩ := I.newB j Dj hj hS x B h
      exact ⟨g1, g2, L, by rw [(old x B (.inr ⟨j, Dj, hj, hS, h⟩)).1]; exact g3, fun hs => okOld (g4 (fun h => hs ((stEq x).2 h)))⟩
    · rw [hi] at hj; cases hj
      obtain ⟨g1, g2, g3, g4, g5, g6⟩ := new x B h
      obtain ⟨L, e1, e2⟩ := h4.blk x B g3
      exact ⟨g1, g2, L, by rw [g5]; exact e1, fun _ => e2.mono hnew (fun _ _ => rfl) (Nat.le_refl _)⟩
  · intro j x k B hj hS hx
    rcases hS with hS | rfl
    · obtain ⟨e1, ⟨B0, e2, e3⟩, L, e4, e5⟩ := I.stB j x k B hj hS hx
      refine ⟨e1, ⟨B0, ?_, e3⟩, L, by rw [(old k B0 e2).1]; exact e4, okOld e5⟩
      rcases e2 with h | ⟨q, z, g1, g2, g3⟩
      · exact .inl h
      · exact .inr ⟨q, z, g1, .inl g2, g3⟩
    · rw [hi] at hj; cases hj; rw [hst] at hx; cases hx
  · intro x B z B' L L' b hx hz hxz ho hL hL' hb
    rcases split x B hx with hx | hx
    · obtain ⟨o1, o2⟩ := old x B hx
      rw [o1] at hL
      rcases split z B' hz with hz | hz
      · rw [(old z B' hz).1] at hL'
        exact I.apart x B z B' L L' b hx hz hxz ho hL hL' hb
      · obtain ⟨_, _, g3, g4, g5, g6⟩ := new z B' hz
        rw [g5] at hL'
        intro hb'
        have := g6 L' b hL' hb'
        have := o2 L b hL hb
        omega
    · obtain ⟨_, _, g3, g4, g5, g6⟩ := new x B hx
      rw [g5] at hL
      rcases split z B' hz with hz | hz
      · obtain ⟨o1, o2⟩ := old z B' hz
        rw [o1] at hL'
        intro hb'
        have := g6 L b hL hb
        have := o2 L' b hL' hb'
        omega
      · obtain ⟨_, _, k3, k4, k5, k6⟩ := new z B' hz
        rw [k5] at hL'
        exact h4.apart x B z B' L L' b g3 k3 hxz ho hL hL' hb
  · intro x B L b hx ho hL hb
    rcases split x B hx with hx | hx
    · rw [(old x B hx).1] at hL
      exact I.wrt x B L b hx ho hL hb
    · obtain ⟨_, _, g3, g4, g5, g6⟩ := new x B hx
      rw [g5] at hL
      exact .inl (Nat.le_trans I.size (g6 L b hL hb))
  · intro j Dj hj hS x h h'
    have hji : j ≠ i := fun e => hS (.inr e)
    rw [hout x (fun hc => by rcases hdisj j Dj hj hji with q | q <;> omega)]
    exact I.fresh1 j Dj hj (fun h => hS (.inl h)) x h h'
  · intro x hx
    rw [hout x (by omega)]; exact I.fresh2 x hx
  · exact Nat.le_trans I.size hsz
  · intro b hb hwr
    rw [hold b (Nat.lt_of_lt_of_le hb I.size)]; exact I.frame b hb hwr
  · intro x hx
    rw [hout x (by omega)]; exact I.keep x hx
  · exact ⟨h4.side.1.trans I.side.1, h4.side.2.trans I.side.2⟩
  · rw [put_defers]; exact I.defers
  · rw [put_size]; exact I.asize

/-- an operation that is passed over -/
theorem InvW.skip (I : InvW C N nn nl fr0 m0 D S ρ a w) {i : Nat} {Di : DW} (hi : D[i]? = some Di) (hst : Di.st = none) (hSi : ¬ S i) (hv : Di.d.v = .val undef) (hnew : Di.d.new = []) (hhi : Di.d.hi = Di.d.lo) (hnn : nn ≤ Di.d.lo) (hnl : Di.d.hi ≤ nl) (hn0 : C.n0 ≤ nn)
    (hdist : ∀ (j : Nat) (x : DW) d, D[j]? = some x → j ≠ i → x.d.dst = some d → Di.d.dst ≠ some d) (hdN : ∀ d, Di.d.dst = some d → d < N)
    (hdisj : ∀ (j : Nat) (x : DW), D[j]? = some x → j ≠ i → x.d.hi ≤ Di.d.lo ∨ Di.d.hi ≤ x.d.lo) :
    ∃ ρ'', InvW C N nn nl fr0 m0 D (fun j => S j ∨ j = i) ρ'' (a.put Di.d.dst undef) w := by
  refine I.step hi hst hSi hnn (by omega) hnl hn0 hdist hdN hdisj (ρ' := lim ρ Di.d.lo) (mm := []) (Env.le_refl _) (by rw [hnew]; rfl) (by rw [hv]; simp only [SV.is]) ?_
  rw [hhi]
  exact ⟨by simp, by simp, fun i hi => lim_ge ρ hi, by simp, Nat.le_refl _, fun _ _ _ => rfl, fun _ _ => rfl, rfl, rfl⟩

/-- the state in which a store is done -/
def ctxS (C : Ctx) (ρ : Env) (lo b : Nat) (w : World) : Ctx := ⟨C.P, w, lim ρ lo, lo, fun p => ∃ L, ρ b = some L ∧ L.blk = some p, C.T⟩

theorem InvW.relS (I : InvW C N nn nl fr0 m0 D S ρ a w) (X : CtxOk C) {pre hide : List Nat} {lo : Nat} (hnn : nn ≤ lo) (hpre : ∀ p ∈ pre, S p) (hlo : ∀ p ∈ pre, ∀ x, D[p]? = some x → x.d.hi ≤ lo)
    (hhide : ∀ (j : Nat) (x : DW) d, D[j]? = some x → S j → x.d.dst = some d → d ∈ hide ∨ j ∈ pre)
    {b : Nat} {e : TypeId} {cells : List SV} (hb : rd (memD (pickD (baseD D) pre) m0) b = some ⟨.own e, cells⟩) (hns : ¬ Stored D S b) :
    Rel (ctxS C ρ lo b w) N (lim ρ lo) (frD (pickD (baseD D) pre) (dels fr0 hide)) [(b, ⟨.own e, cells⟩)] lo a w ∧ CtxOk (ctxS C ρ lo b w) := by
  obtain ⟨hE, g1, L, g3, g4⟩ := I.see hnn hpre hlo (rd_mem hb)
  refine ⟨⟨I.fr hnn hpre hlo hhide, ?_, I.defers, I.asize, Nat.le_refl _⟩, ?_, ?_⟩
  · constructor
    · intro i B h
      simp at h
      obtain ⟨rfl, rfl⟩ := h
      exact ⟨L, by rw [lim_lt _ g1]; exact g3, g4 hns⟩
    · intro i B j B' L L' b' hi hj hij
      simp at hi hj
      exact absurd (hi.1.trans hj.1.symm) hij
    · intro i hi; exact lim_ge ρ hi
    · intro i B L' b' h _ hL hbb
      simp at h
      obtain ⟨rfl, rfl⟩ := h
      rw [lim_lt _ g1] at hL
      exact .inr ⟨L', hL, hbb⟩
    · exact Nat.le_refl _
    · intro b _ _; rfl
    · intro i _; rfl
    · exact ⟨rfl, rfl⟩
  · intro g cs h
    obtain ⟨h1, h2⟩ := X.tab g cs h
    refine ⟨Nat.lt_of_lt_of_le h1 I.size, fun j v hj => ?_⟩
    obtain ⟨x, q1, q2, q3⟩ := h2 j v hj
    exact ⟨x, by rw [← q1]; exact cell?_of_heap (I.frame g h1 (X.nwr g cs h)), q2, q3⟩
  · rintro g cs h ⟨L', e1, e2⟩
    obtain ⟨h1, _⟩ := X.tab g cs h
    rcases I.wrt b _ L' g hE ⟨e, rfl⟩ e1 e2 with q | q
    · omega
    · exact X.nwr g cs h q

/-- the state with one store more -/
theorem InvW.store (I : InvW C N nn nl fr0 m0 D S ρ a w) {i : Nat} {Di : DW} (hi : D[i]? = some Di) {b : Nat} {e : TypeId} {cells cells' : List SV} {pre : List Nat} (hst : Di.st = some (b, ⟨.own e, cells'⟩)) (hSi : ¬ S i)
    (hnn : nn ≤ Di.d.lo) (hhi : Di.d.hi = Di.d.lo) (hnew : Di.d.new = []) (hv : Di.d.v = .any)
    (hpre : ∀ p ∈ pre, S p) (hlo : ∀ p ∈ pre, ∀ x, D[p]? = some x → x.d.hi ≤ Di.d.lo)
    (hb : rd (memD (pickD (baseD D) pre) m0) b = some ⟨.own e, cells⟩) (hns : ¬ Stored D S b)
    (hdist : ∀ (j : Nat) (x : DW) d, D[j]? = some x → j ≠ i → x.d.dst = some d → Di.d.dst ≠ some d) (hdN : ∀ d, Di.d.dst = some d → d < N)
    {ρ' : Env} {y : Value} {w' : World} (h4 : MemOk (ctxS C ρ Di.d.lo b w) ρ' [(b, ⟨.own e, cells'⟩)] Di.d.lo w') :
    InvW C N nn nl fr0 m0 D (fun j => S j ∨ j = i) ρ (a.put Di.d.dst y) w' := by
  obtain ⟨hE, g1, L, g3, g4⟩ := I.see hnn hpre hlo (rd_mem hb)
  have hρ : ρ' = lim ρ Di.d.lo := by
    funext k
    rcases Nat.lt_or_ge k Di.d.lo with h | h
    · exact h4.keep k h
    · rw [lim_ge ρ h]; exact h4.fresh k h
  subst hρ
  have hsz : w.heap.size ≤ w'.heap.size := h4.size
  have hold : ∀ p, p < w.heap.size → L.blk ≠ some p → w'.heap[p]? = w.heap[p]? := fun p hp hne => h4.frame p hp (fun ⟨L', e1, e2⟩ => by
    rw [g3] at e1; cases e1; exact hne e2)
  -- another block keeps what it holds
  have okOther : ∀ {c k : Nat} {B B0 : Blk} {L' : Loc}, Entry m0 D S k B0 → k ≠ b → ρ k = some L' → B.okAt (lim ρ c) w L' → B.okAt (lim ρ c) w' L' := fun {c k B B0 L'} hk hkb hL' h =>
    h.mono (Env.le_refl _) (fun p hp => hold p (okAt_blk h hp) (fun hLp => I.apart b _ k B0 L L' p hE hk (Ne.symm hkb) ⟨e, rfl⟩ g3 hL' hLp hp)) hsz
  have entEq : ∀ {k B}, Entry m0 D (fun j => S j ∨ j = i) k B ↔ Entry m0 D S k B := by
    intro k B
    constructor
    · rintro (h | ⟨q, z, e1, e2 | rfl, e3⟩)
      · exact .inl h
      · exact .inr ⟨q, z, e1, e2, e3⟩
      · rw [hi] at e1; cases e1; rw [hnew] at e3; simp at e3
    · rintro (h | ⟨q, z, e1, e2, e3⟩)
      · exact .inl h
      · exact .inr ⟨q, z, e1, .inl e2, e3⟩
  have stB' : Stored D (fun j => S j ∨ j = i) b := ⟨i, Di, _, hi, .inr rfl, hst⟩
  have stLe : ∀ {k}, Stored D S k → Stored D (fun j => S j ∨ j = i) k := fun ⟨j, x, B, e1, e2, e3⟩ => ⟨j, x, B, e1, .inl e2, e3⟩
  constructor
  · intro d v hd hn
    obtain ⟨x, e1, e2⟩ := I.base d v hd (fun j Dj hj hS => hn j Dj hj (.inl hS))
    refine ⟨x, ?_, e2⟩
    have := hn i Di hi (.inr rfl)
    unfold Act.put
    split
    · rename_i t ht; rw [Array.getElem?_setIfInBounds_ne (fun e => this (by rw [ht, e]))]; exact e1
    · exact e1
  · intro j Dj d hj hS hd
    rcases hS with hS | rfl
    · obtain ⟨x, e1, e2⟩ := I.done j Dj d hj hS hd
      refine ⟨x, ?_, e2⟩
      have := hdist j Dj d hj (fun e => hSi (e ▸ hS)) hd
      unfold Act.put
      split
      · rename_i t ht; rw [Array.getElem?_setIfInBounds_ne (fun e => this (by rw [ht, e]))]; exact e1
      · exact e1
    · rw [hi] at hj; cases hj
      refine ⟨y, ?_, by rw [hv]; simp only [SV.is]⟩
      have := hdN d hd
      simp [Act.put, hd, I.asize, this]
  · intro k B h
    obtain ⟨q1, L', q3, q4⟩ := I.oldB k B h
    refine ⟨q1, L', q3, fun hs => ?_⟩
    have hkb : k ≠ b := fun e => hs (e ▸ stB')
    exact okOther (.inl h) hkb q3 (q4 fun h => hs (stLe h))
  · intro j Dj hj hS k B h
    rcases hS with hS | rfl
    · obtain ⟨q1, q2, L', q3, q4⟩ := I.newB j Dj hj hS k B h
      refine ⟨q1, q2, L', q3, fun hs => ?_⟩
      have hkb : k ≠ b := fun e => hs (e ▸ stB')
      exact okOther (.inr ⟨j, Dj, hj, hS, h⟩) hkb q3 (q4 fun h => hs (stLe h))
    · rw [hi] at hj; cases hj; rw [hnew] at h; simp at h
  · intro j x k B hj hS hx
    rcases hS with hS | rfl
    · obtain ⟨e1, ⟨B0, e2, e3⟩, L', e4, e5⟩ := I.stB j x k B hj hS hx
      have hkb : k ≠ b := fun e => hns (e ▸ ⟨j, x, B, hj, hS, hx⟩)
      exact ⟨e1, ⟨B0, entEq.2 e2, e3⟩, L', e4, okOther e2 hkb e4 e5⟩
    · rw [hi] at hj; cases hj
      rw [hst] at hx; cases hx
      refine ⟨⟨e, rfl⟩, ⟨_, entEq.2 hE, ⟨e, rfl⟩⟩, L, g3, ?_⟩
      obtain ⟨L', e1, e2⟩ := h4.blk b _ List.mem_cons_self
      rw [lim_lt _ g1, g3] at e1; cases e1
      rw [hhi]; exact e2
  · intro k B z B' L1 L2 p hk hz; exact I.apart k B z B' L1 L2 p (entEq.1 hk) (entEq.1 hz)
  · intro k B L1 p hk; exact I.wrt k B L1 p (entEq.1 hk)
  · intro j Dj hj hS; exact I.fresh1 j Dj hj (fun h => hS (.inl h))
  · exact I.fresh2
  · exact Nat.le_trans I.size hsz
  · intro p hp hwr
    rw [hold p (Nat.lt_of_lt_of_le hp I.size) (fun hL => by
      rcases I.wrt b _ L p hE ⟨e, rfl⟩ g3 hL with q | q
      · omega
      · exact hwr q)]
    exact I.frame p hp hwr
  · exact I.keep
  · exact ⟨h4.side.1.trans I.side.1, h4.side.2.trans I.side.2⟩
  · rw [put_defers]; exact I.defers
  · rw [put_size]; exact I.asize

theorem mem_updsW : ∀ {l : List DW} {m : Mem} {i : Nat} {B : Blk}, (i, B) ∈ updsW l m → (∃ x ∈ l, x.st = some (i, B)) ∨ ((i, B) ∈ m ∧ ∀ x ∈ l, ∀ B', x.st ≠ some (i, B'))
  | [], m, i, B, h => .inr ⟨h, by simp⟩
  | x :: l, m, i, B, h => by
    unfold updsW at h
    split at h
    · rename_i b B1 hx
      rcases mem_upd h with h | ⟨h, hne⟩
      · cases h; exact .inl ⟨x, List.mem_cons_self, hx⟩
      · rcases mem_updsW h with ⟨y, h1, h2⟩ | ⟨h1, h2⟩
        · exact .inl ⟨y, List.mem_cons_of_mem _ h1, h2⟩
        · refine .inr ⟨h1, fun y hy B' hy' => ?_⟩
          rcases List.mem_cons.1 hy with rfl | hy
          · rw [hx] at hy'; cases hy'; exact hne rfl
          · exact h2 y hy B' hy'
    · rename_i hx
      rcases mem_updsW h with ⟨y, h1, h2⟩ | ⟨h1, h2⟩
      · exact .inl ⟨y, List.mem_cons_of_mem _ h1, h2⟩
      · refine .inr ⟨h1, fun y hy B' hy' => ?_⟩
        rcases List.mem_cons.1 hy with rfl | hy
        · rw [hx] at hy'; cases hy'
        · exact h2 y hy B' hy'

/-- all operations done -/
theorem InvW.whole (I : InvW C N nn nl fr0 m0 D S ρ a w) (hall : ∀ (j : Nat) (x : DW), D[j]? = some x → S j) (hn : nn ≤ nl) (hhi : ∀ (j : Nat) (x : DW), D[j]? = some x → x.d.hi ≤ nl) (hn0 : C.n0 ≤ nn) (ks : List Nat) :
    Rel C N ρ (dels (frD (baseD D).reverse fr0) ks) (updsW D (memD (baseD D).reverse m0)) nl a w := by
  have hbase : ∀ {Dj : Dn}, Dj ∈ (baseD D).reverse → ∃ (q : Nat) (x : DW), D[q]? = some x ∧ x.d = Dj := by
    intro Dj h
    obtain ⟨q, hq⟩ := List.getElem?_of_mem (List.mem_reverse.1 h)
    obtain ⟨x, h1, h2⟩ := baseD_get.1 hq
    exact ⟨q, x, h1, h2⟩
  have hent : ∀ i B, (i, B) ∈ memD (baseD D).reverse m0 → Entry m0 D S i B := by
    intro i B h
    rcases mem_memD h with ⟨Dj, h1, h2⟩ | h1
    · obtain ⟨q, x, hq, rfl⟩ := hbase h1
      exact .inr ⟨q, x, hq, hall q x hq, h2⟩
    · exact .inl h1
  have hfin : ∀ i B, (i, B) ∈ updsW D (memD (baseD D).reverse m0) → (∃ L, ρ i = some L ∧ B.okAt ρ w L) ∧ ∃ B0, Entry m0 D S i B0 ∧ (B.own → B0.own) := by
    intro i B h
    rcases mem_updsW h with ⟨x, h1, h2⟩ | ⟨h1, h2⟩
    · obtain ⟨q, hq⟩ := List.getElem?_of_mem h1
      obtain ⟨_, ⟨B0, e2, e3⟩, L, e4, e5⟩ := I.stB q x i B hq (hall q x hq) h2
      exact ⟨⟨L, e4, e5.mono (lim_le ρ _) (fun _ _ => rfl) (Nat.le_refl _)⟩, B0, e2, fun _ => e3⟩
    · have hE := hent i B h1
      have hns : ¬ Stored D S i := fun ⟨j, x, B', e1, _, e3⟩ => h2 x (List.mem_of_getElem? e1) B' e3
      refine ⟨?_, B, hE, fun h => h⟩
      rcases hE with h | ⟨q, x, g1, g2, g3⟩
      · obtain ⟨_, L, e1, e2⟩ := I.oldB i B h
        exact ⟨L, e1, (e2 hns).mono (lim_le ρ _) (fun _ _ => rfl) (Nat.le_refl _)⟩
      · obtain ⟨_, _, L, e1, e2⟩ := I.newB q x g1 g2 i B g3
        exact ⟨L, e1, (e2 hns).mono (lim_le ρ _) (fun _ _ => rfl) (Nat.le_refl _)⟩
  constructor
  · intro d v h
    rcases mem_frD (mem_dels h).1 with ⟨Dj, h1, h2, rfl⟩ | ⟨h1, h2⟩
    · obtain ⟨q, x, hq, rfl⟩ := hbase h1
      obtain ⟨y, e1, e2⟩ := I.done q x d hq (hall q x hq) h2
      exact ⟨y, e1, SV.is_mono (lim_le ρ _) _ _ e2⟩
    · obtain ⟨y, e1, e2⟩ := I.base d v h1 (fun j x hj _ => h2 x.d (List.mem_reverse.2 (by rw [baseD_eq]; exact List.mem_map.2 ⟨x, List.mem_of_getElem? hj, rfl⟩)))
      exact ⟨y, e1, SV.is_mono (lim_le ρ _) _ _ e2⟩
  · constructor
    · intro i B h; exact (hfin i B h).1
    · intro i B j B' L L' b hi hj hij ho
      obtain ⟨_, B0, e1, e2⟩ := hfin i B hi
      obtain ⟨_, B1, e3, _⟩ := hfin j B' hj
      exact I.apart i B0 j B1 L L' b e1 e3 hij (e2 ho)
    · exact I.fresh2
    · intro i B L b hi ho
      obtain ⟨_, B0, e1, e2⟩ := hfin i B hi
      exact I.wrt i B0 L b e1 (e2 ho)
    · exact I.size
    · exact I.frame
    · exact I.keep
    · exact I.side
  · exact I.defers
  · exact I.asize
  · omega

theorem InvW.start {n : Nat} (R : Rel C N ρ fr0 m0 n a w) (hD : ∀ (j : Nat) (x : DW), D[j]? = some x → n ≤ x.d.lo) (hnl : n ≤ nl) : InvW C N n nl fr0 m0 D (fun _ => False) ρ a w := by
  have hl : ∀ i L, ρ i = some L → i < n := fun i L h => by
    rcases Nat.lt_or_ge i n with h' | h'
    · exact h'
    · rw [R.mem.fresh i h'] at h; cases h
  have hle : ρ.le (lim ρ n) := fun i L h => by rw [lim_lt _ (hl i L h)]; exact h
  have hent : ∀ {i B}, Entry m0 D (fun _ => False) i B → (i, B) ∈ m0 := by
    rintro i B (h | ⟨_, _, _, h, _⟩)
    · exact h
    · exact h.elim
  constructor
  · intro d v h _
    obtain ⟨x, e1, e2⟩ := R.fr d v h
    exact ⟨x, e1, SV.is_mono hle _ _ e2⟩
  · intro _ _ _ _ h; exact h.elim
  · intro i B h
    obtain ⟨L, e1, e2⟩ := R.mem.blk i B h
    exact ⟨hl i L e1, L, e1, fun _ => e2.mono hle (fun _ _ => rfl) (Nat.le_refl _)⟩
  · intro _ _ _ h; exact h.elim
  · intro _ _ _ _ _ h; exact h.elim
  · intro i B j B' L L' b hi hj; exact R.mem.apart i B j B' L L' b (hent hi) (hent hj)
  · intro i B L b hi; exact R.mem.wrt i B L b (hent hi)
  · intro j x hj _ k hk _
    exact R.mem.fresh k (Nat.le_trans (hD j x hj) hk)
  · intro k hk; exact R.mem.fresh k (by omega)
  · exact R.mem.size
  · exact R.mem.frame
  · exact R.mem.keep
  · exact R.mem.side
  · exact R.defers
  · exact R.size
end
end Go.Sx
