/- The engine, part R: one operation of a region whose order is open, at whatever time it comes. -/
import Derived.Test.YtflkcganpgjkkaaDoorEngQ
namespace Go.Sx
open Go
set_option linter.unusedSimpArgs false
set_option linter.unusedVariables false

section
variable {C : Ctx} {N nn nl : Nat} {fr0 : Fr} {m0 : Mem} {D : List Dn} {S : Nat → Prop} {ρ : Env} {a : Act} {w : World}

def ctxD (C : Ctx) (ρ : Env) (lo : Nat) (w : World) : Ctx := ⟨C.P, w, lim ρ lo, lo, fun _ => False, C.T⟩

theorem InvD.ctx (I : InvD C N nn nl fr0 m0 D S ρ a w) (X : CtxOk C) (lo : Nat) : CtxOk (ctxD C ρ lo w) := by
  constructor
  · intro g cs h
    obtain ⟨h1, h2⟩ := X.tab g cs h
    refine ⟨Nat.lt_of_lt_of_le h1 I.size, fun j v hj => ?_⟩
    obtain ⟨x, q1, q2, q3⟩ := h2 j v hj
    exact ⟨x, by rw [← q1]; exact cell?_of_heap (I.frame g h1 (X.nwr g cs h)), q2, q3⟩
  · intro g cs _ h; exact h

theorem okAt_view {ρ ρ' : Env} {w : World} {B : Blk} {L : Loc} (h : B.okAt ρ w L) (hle : ρ.le ρ') : (⟨.view, B.cells⟩ : Blk).okAt ρ' w L := by
  have h2 := h.mono hle (fun _ _ => rfl) (Nat.le_refl _)
  unfold Blk.okAt at h2 ⊢
  cases hb : L.blk with
  | none => rw [hb] at h2; exact h2
  | some b => rw [hb] at h2; exact ⟨h2.1, h2.2.1, trivial⟩

theorem InvD.rel (I : InvD C N nn nl fr0 m0 D S ρ a w) {pre hide : List Nat} {lo : Nat} (hnn : nn ≤ lo) (hpre : ∀ p ∈ pre, S p) (hlo : ∀ p ∈ pre, ∀ Dp, D[p]? = some Dp → Dp.hi ≤ lo)
    (hhide : ∀ (j : Nat) Dj d, D[j]? = some Dj → S j → Dj.dst = some d → d ∈ hide ∨ j ∈ pre) :
    Rel (ctxD C ρ lo w) N (lim ρ lo) (frD (pickD D pre) (dels fr0 hide)) (views (memD (pickD D pre) m0)) lo a w := by
  constructor
  · intro d v h
    rcases mem_frD h with ⟨Dj, h1, h2, rfl⟩ | ⟨h1, h2⟩
    · obtain ⟨j, hj, hDj⟩ := mem_pickD.1 h1
      obtain ⟨x, e1, e2⟩ := I.done j Dj d hDj (hpre j hj) h2
      exact ⟨x, e1, SV.is_mono (lim_mono ρ (hlo j hj Dj hDj)) _ _ e2⟩
    · obtain ⟨h3, h4⟩ := mem_dels h1
      obtain ⟨x, e1, e2⟩ := I.base d v h3 (fun j Dj hDj hS hdst => by
        rcases hhide j Dj d hDj hS hdst with h5 | h5
        · exact h4 h5
        · exact h2 Dj (mem_pickD.2 ⟨j, h5, hDj⟩) hdst)
      exact ⟨x, e1, SV.is_mono (lim_mono ρ hnn) _ _ e2⟩
  · constructor
    · intro i B h
      obtain ⟨B0, h1, rfl⟩ := mem_views h
      rcases mem_memD h1 with ⟨Dj, h2, h3⟩ | h2
      · obtain ⟨j, hj, hDj⟩ := mem_pickD.1 h2
        obtain ⟨g1, g2, L, g3, g4⟩ := I.newB j Dj hDj (hpre j hj) i B0 h3
        have := hlo j hj Dj hDj
        exact ⟨L, by rw [lim_lt _ (by omega)]; exact g3, okAt_view g4 (lim_mono ρ this)⟩
      · obtain ⟨g1, L, g3, g4⟩ := I.oldB i B0 h2
        exact ⟨L, by rw [lim_lt _ (by omega)]; exact g3, okAt_view g4 (lim_mono ρ hnn)⟩
    · intro i B j B' L L' b h _ _ ho
      obtain ⟨B0, _, rfl⟩ := mem_views h
      obtain ⟨e, he⟩ := ho; cases he
    · intro i hi; exact lim_ge ρ hi
    · intro i B L b h ho
      obtain ⟨B0, _, rfl⟩ := mem_views h
      obtain ⟨e, he⟩ := ho; cases he
    · exact Nat.le_refl _
    · intro b _ _; rfl
    · intro i _; rfl
    · exact ⟨rfl, rfl⟩
  · exact I.defers
  · exact I.asize
  · exact Nat.le_refl _

/-- the state with one operation more -/
theorem InvD.step (I : InvD C N nn nl fr0 m0 D S ρ a w) {i : Nat} {Di : Dn} (hi : D[i]? = some Di) (hSi : ¬ S i) (hnn : nn ≤ Di.lo) (hle : Di.lo ≤ Di.hi) (hnl : Di.hi ≤ nl) (hn0 : C.n0 ≤ nn)
    (hdist : ∀ (j : Nat) Dj d, D[j]? = some Dj → j ≠ i → Dj.dst = some d → Di.dst ≠ some d) (hdN : ∀ d, Di.dst = some d → d < N)
    (hdisj : ∀ (j : Nat) Dj, D[j]? = some Dj → j ≠ i → Dj.hi ≤ Di.lo ∨ Di.hi ≤ Dj.lo)
    {ρ' : Env} {y : Value} {w' : World} {mm : Mem} (h1 : (lim ρ Di.lo).le ρ') (h2 : Di.new = newer Di.lo mm) (h3 : Di.v.is ρ' y) (h4 : MemOk (ctxD C ρ Di.lo w) ρ' mm Di.hi w') :
    ∃ ρ'', InvD C N nn nl fr0 m0 D (fun j => S j ∨ j = i) ρ'' (a.put Di.dst y) w' := by
  let ρ2 : Env := fun x => if Di.lo ≤ x ∧ x < Di.hi then ρ' x else ρ x
  have hfr : ∀ x, Di.lo ≤ x → x < Di.hi → ρ x = none := I.fresh1 i Di hi hSi
  have hout : ∀ x, ¬ (Di.lo ≤ x ∧ x < Di.hi) → ρ2 x = ρ x := fun x hx => by simp only [ρ2]; rw [if_neg hx]
  have hin : ∀ x, Di.lo ≤ x → x < Di.hi → ρ2 x = ρ' x := fun x h h' => by simp only [ρ2]; rw [if_pos ⟨h, h'⟩]
  have hle2 : ρ.le ρ2 := fun x L hx => by
    by_cases hc : Di.lo ≤ x ∧ x < Di.hi
    · rw [hfr x hc.1 hc.2] at hx; cases hx
    · rw [hout x hc]; exact hx
  have hlim : ∀ c, (lim ρ c).le (lim ρ2 c) := fun c x L hx => by
    unfold lim at hx ⊢
    split at hx
    · rename_i hxc; rw [if_pos hxc]; exact hle2 x L hx
    · cases hx
  have hnew : ρ'.le (lim ρ2 Di.hi) := fun x L hx => by
    have hxh : x < Di.hi := by
      rcases Nat.lt_or_ge x Di.hi with h | h
      · exact h
      · rw [h4.fresh x h] at hx; cases hx
    rw [lim_lt _ hxh]
    by_cases hxl : Di.lo ≤ x
    · rw [hin x hxl hxh]; exact hx
    · rw [hout x (by omega)]
      have := h4.keep x (by simp only [ctxD]; omega)
      rw [this] at hx
      simp only [ctxD] at hx
      rw [lim_lt _ (by omega)] at hx; exact hx
  have hold : ∀ b, b < w.heap.size → w'.heap[b]? = w.heap[b]? := fun b hb => h4.frame b hb (fun h => h)
  have hsz : w.heap.size ≤ w'.heap.size := h4.size
  have okOld : ∀ {c : Nat} {B : Blk} {L : Loc}, B.okAt (lim ρ c) w L → B.okAt (lim ρ2 c) w' L := fun {c B L} h =>
    h.mono (hlim c) (fun b hb => hold b (by unfold Blk.okAt at h; rw [hb] at h; exact h.1)) hsz
  have hblk : ∀ {c : Nat} {B : Blk} {L : Loc} {b : Nat}, B.okAt (lim ρ c) w L → L.blk = some b → b < w.heap.size := fun {c B L b} h hb => by
    unfold Blk.okAt at h; rw [hb] at h; exact h.1
  -- an old block: where it lies
  have old : ∀ x B, ((x, B) ∈ m0 ∨ ∃ (q : Nat) (Dq : Dn), D[q]? = some Dq ∧ S q ∧ (x, B) ∈ Dq.new) → ρ2 x = ρ x ∧ ∀ L b, ρ x = some L → L.blk = some b → b < w.heap.size := by
    intro x B h
    have hx : ∃ L c, ρ x = some L ∧ B.okAt (lim ρ c) w L := by
      rcases h with h | ⟨q, Dq, g1, g2, g3⟩
      · obtain ⟨_, L, e1, e2⟩ := I.oldB x B h; exact ⟨L, _, e1, e2⟩
      · obtain ⟨_, _, L, e1, e2⟩ := I.newB q Dq g1 g2 x B g3; exact ⟨L, _, e1, e2⟩
    obtain ⟨L, c, e1, e2⟩ := hx
    refine ⟨hout x (fun hc => by rw [hfr x hc.1 hc.2] at e1; cases e1), fun L' b hL' hb => ?_⟩
    rw [e1] at hL'; cases hL'; exact hblk e2 hb
  -- a new block: where it lies
  have new : ∀ x B, (x, B) ∈ Di.new → Di.lo ≤ x ∧ x < Di.hi ∧ (x, B) ∈ mm ∧ B.own ∧ ρ2 x = ρ' x ∧ ∀ L b, ρ' x = some L → L.blk = some b → w.heap.size ≤ b := by
    intro x B h
    rw [h2] at h
    obtain ⟨g1, g2, g3⟩ := mem_newer h
    obtain ⟨L, e1, e2⟩ := h4.blk x B g2
    have hxh : x < Di.hi := by
      rcases Nat.lt_or_ge x Di.hi with h | h
      · exact h
      · rw [h4.fresh x h] at e1; cases e1
    refine ⟨g1, hxh, g2, g3, hin x g1 hxh, fun L' b hL' hb => ?_⟩
    rcases h4.wrt x B L' b g2 g3 hL' hb with q | q
    · exact q
    · exact q.elim
  have split : ∀ x B, ((x, B) ∈ m0 ∨ ∃ (q : Nat) (Dq : Dn), D[q]? = some Dq ∧ (S q ∨ q = i) ∧ (x, B) ∈ Dq.new) →
      ((x, B) ∈ m0 ∨ ∃ (q : Nat) (Dq : Dn), D[q]? = some Dq ∧ S q ∧ (x, B) ∈ Dq.new) ∨ (x, B) ∈ Di.new := by
    intro x B h
    rcases h with h | ⟨q, Dq, g1, g2 | rfl, g3⟩
    · exact .inl (.inl h)
    · exact .inl (.inr ⟨q, Dq, g1, g2, g3⟩)
    · rw [hi] at g1; cases g1; exact .inr g3
  refine ⟨ρ2, ?_⟩
  constructor
  · intro d v hd hn
    obtain ⟨x, e1, e2⟩ := I.base d v hd (fun j Dj hj hS => hn j Dj hj (.inl hS))
    refine ⟨x, ?_, SV.is_mono (hlim nn) _ _ e2⟩
    have := hn i Di hi (.inr rfl)
    unfold Act.put
    split
    · rename_i t ht; rw [Array.getElem?_setIfInBounds_ne (fun e => this (by rw [ht, e]))]; exact e1
    · exact e1
  · intro j Dj d hj hS hd
    rcases hS with hS | rfl
    · obtain ⟨x, e1, e2⟩ := I.done j Dj d hj hS hd
      refine ⟨x, ?_, SV.is_mono (hlim _) _ _ e2⟩
      have := hdist j Dj d hj (fun e => hSi (e ▸ hS)) hd
      unfold Act.put
      split
      · rename_i t ht; rw [Array.getElem?_setIfInBounds_ne (fun e => this (by rw [ht, e]))]; exact e1
      · exact e1
    · rw [hi] at hj; cases hj
      refine ⟨y, ?_, SV.is_mono hnew _ _ h3⟩
      have := hdN d hd
      simp [Act.put, hd, I.asize, this]
  · intro x B h
    obtain ⟨g1, L, g3, g4⟩ := I.oldB x B h
    exact ⟨g1, L, by rw [(old x B (.inl h)).1]; exact g3, okOld g4⟩
  · intro j Dj hj hS x B h
    rcases hS with hS | rfl
    · obtain ⟨g1, g2, L, g3, g4⟩ := I.newB j Dj hj hS x B h
      exact ⟨g1, g2, L, by rw [(old x B (.inr ⟨j, Dj, hj, hS, h⟩)).1]; exact g3, okOld g4⟩
    · rw [hi] at hj; cases hj
      obtain ⟨g1, g2, g3, g4, g5, g6⟩ := new x B h
      obtain ⟨L, e1, e2⟩ := h4.blk x B g3
      exact ⟨g1, g2, L, by rw [g5]; exact e1, e2.mono hnew (fun _ _ => rfl) (Nat.le_refl _)⟩
  · intro x B z B' L L' b hx hz hxz ho hL hL' hb
    rcases split x B hx with hx | hx
    · obtain ⟨o1, o2⟩ := old x B hx
      rw [o1] at hL
      rcases split z B' hz with hz | hz
      · rw [(old z B' hz).1] at hL'
        exact I.apart x B z B' L L' b hx hz hxz ho hL hL' hb
      · obtain ⟨_, _, g3, g4, g5, g6⟩ := new z B' hz
        rw [g5] at hL'
        intro hb'
        have := g6 L' b hL' hb'
        have := o2 L b hL hb
        omega
    · obtain ⟨_, _, g3, g4, g5, g6⟩ := new x B hx
      rw [g5] at hL
      rcases split z B' hz with hz | hz
      · obtain ⟨o1, o2⟩ := old z B' hz
        rw [o1] at hL'
        intro hb'
        have := g6 L b hL hb
        have := o2 L' b hL' hb'
        omega
      · obtain ⟨_, _, k3, k4, k5, k6⟩ := new z B' hz
        rw [k5] at hL'
        exact h4.apart x B z B' L L' b g3 k3 hxz ho hL hL' hb
  · intro x B L b hx ho hL hb
    rcases split x B hx with hx | hx
    · rw [(old x B hx).1] at hL
      exact I.wrt x B L b hx ho hL hb
    · obtain ⟨_, _, g3, g4, g5, g6⟩ := new x B hx
      rw [g5] at hL
      exact .inl (Nat.le_trans I.size (g6 L b hL hb))
  · intro j Dj hj hS x h h'
    have hji : j ≠ i := fun e => hS (.inr e)
    rw [hout x (fun hc => by rcases hdisj j Dj hj hji with q | q <;> omega)]
    exact I.fresh1 j Dj hj (fun h => hS (.inl h)) x h h'
  · intro x hx
    rw [hout x (by omega)]; exact I.fresh2 x hx
  · exact Nat.le_trans I.size hsz
  · intro b hb hwr
    rw [hold b (Nat.lt_of_lt_of_le hb I.size)]; exact I.frame b hb hwr
  · intro x hx
    rw [hout x (by omega)]; exact I.keep x hx
  · exact ⟨h4.side.1.trans I.side.1, h4.side.2.trans I.side.2⟩
  · rw [put_defers]; exact I.defers
  · rw [put_size]; exact I.asize

/-- an operation that is passed over -/
theorem InvD.skip (I : InvD C N nn nl fr0 m0 D S ρ a w) {i : Nat} {Di : Dn} (hi : D[i]? = some Di) (hSi : ¬ S i) (hv : Di.v = .val undef) (hnew : Di.new = []) (hhi : Di.hi = Di.lo) (hnn : nn ≤ Di.lo) (hnl : Di.hi ≤ nl) (hn0 : C.n0 ≤ nn)
    (hdist : ∀ (j : Nat) Dj d, D[j]? = some Dj → j ≠ i → Dj.dst = some d → Di.dst ≠ some d) (hdN : ∀ d, Di.dst = some d → d < N)
    (hdisj : ∀ (j : Nat) Dj, D[j]? = some Dj → j ≠ i → Dj.hi ≤ Di.lo ∨ Di.hi ≤ Dj.lo) (X : CtxOk C) :
    ∃ ρ'', InvD C N nn nl fr0 m0 D (fun j => S j ∨ j = i) ρ'' (a.put Di.dst undef) w := by
  have R := I.rel (pre := []) (hide := (D.filterMap (·.dst))) hnn (by simp) (by simp) (fun j Dj d hj _ hd => .inl (List.mem_filterMap.2 ⟨Dj, List.mem_of_getElem? hj, hd⟩))
  refine I.step hi hSi hnn (by omega) hnl hn0 hdist hdN hdisj (ρ' := lim ρ Di.lo) (mm := []) (Env.le_refl _) (by rw [hnew]; rfl) (by rw [hv]; simp only [SV.is]) ?_
  rw [hhi]
  exact R.mem.sub (by simp) (Nat.le_refl _)

/-- all operations done -/
theorem InvD.whole (I : InvD C N nn nl fr0 m0 D S ρ a w) (hall : ∀ (j : Nat) Dj, D[j]? = some Dj → S j) (hn : nn ≤ nl) (hhi : ∀ (j : Nat) Dj, D[j]? = some Dj → Dj.hi ≤ nl) (hn0 : C.n0 ≤ nn) (ks : List Nat) :
    Rel C N ρ (dels (frD D.reverse fr0) ks) (memD D.reverse m0) nl a w := by
  have hmem : ∀ i B, (i, B) ∈ memD D.reverse m0 → ((i, B) ∈ m0 ∨ ∃ (q : Nat) (Dq : Dn), D[q]? = some Dq ∧ S q ∧ (i, B) ∈ Dq.new) := by
    intro i B h
    rcases mem_memD h with ⟨Dj, h1, h2⟩ | h1
    · obtain ⟨q, hq⟩ := List.getElem?_of_mem (List.mem_reverse.1 h1)
      exact .inr ⟨q, Dj, hq, hall q Dj hq, h2⟩
    · exact .inl h1
  constructor
  · intro d v h
    rcases mem_frD (mem_dels h).1 with ⟨Dj, h1, h2, rfl⟩ | ⟨h1, h2⟩
    · obtain ⟨q, hq⟩ := List.getElem?_of_mem (List.mem_reverse.1 h1)
      obtain ⟨x, e1, e2⟩ := I.done q Dj d hq (hall q Dj hq) h2
      exact ⟨x, e1, SV.is_mono (lim_le ρ _) _ _ e2⟩
    · obtain ⟨x, e1, e2⟩ := I.base d v h1 (fun j Dj hj _ => h2 Dj (List.mem_reverse.2 (List.mem_of_getElem? hj)))
      exact ⟨x, e1, SV.is_mono (lim_le ρ _) _ _ e2⟩
  · constructor
    · intro i B h
      rcases hmem i B h with h | ⟨q, Dq, g1, g2, g3⟩
      · obtain ⟨_, L, e1, e2⟩ := I.oldB i B h
        exact ⟨L, e1, e2.mono (lim_le ρ _) (fun _ _ => rfl) (Nat.le_refl _)⟩
      · obtain ⟨_, _, L, e1, e2⟩ := I.newB q Dq g1 g2 i B g3
        exact ⟨L, e1, e2.mono (lim_le ρ _) (fun _ _ => rfl) (Nat.le_refl _)⟩
    · intro i B j B' L L' b hi hj; exact I.apart i B j B' L L' b (hmem i B hi) (hmem j B' hj)
    · exact I.fresh2
    · intro i B L b hi; exact I.wrt i B L b (hmem i B hi)
    · exact I.size
    · exact I.frame
    · exact I.keep
    · exact I.side
  · exact I.defers
  · exact I.asize
  · omega

theorem InvD.start {n : Nat} (R : Rel C N ρ fr0 m0 n a w) (hD : ∀ (j : Nat) Dj, D[j]? = some Dj → n ≤ Dj.lo) (hnl : n ≤ nl) : InvD C N n nl fr0 m0 D (fun _ => False) ρ a w := by
  have hl : ∀ i L, ρ i = some L → i < n := fun i L h => by
    rcases Nat.lt_or_ge i n with h' | h'
    · exact h'
    · rw [R.mem.fresh i h'] at h; cases h
  have hle : ρ.le (lim ρ n) := fun i L h => by rw [lim_lt _ (hl i L h)]; exact h
  constructor
  · intro d v h _
    obtain ⟨x, e1, e2⟩ := R.fr d v h
    exact ⟨x, e1, SV.is_mono hle _ _ e2⟩
  · intro _ _ _ _ h; exact h.elim
  · intro i B h
    obtain ⟨L, e1, e2⟩ := R.mem.blk i B h
    exact ⟨hl i L e1, L, e1, e2.mono hle (fun _ _ => rfl) (Nat.le_refl _)⟩
  · intro _ _ _ h; exact h.elim
  · intro i B j B' L L' b hi hj
    have hi' : (i, B) ∈ m0 := by rcases hi with h | ⟨_, _, _, h, _⟩ <;> first | exact h | exact h.elim
    have hj' : (j, B') ∈ m0 := by rcases hj with h | ⟨_, _, _, h, _⟩ <;> first | exact h | exact h.elim
    exact R.mem.apart i B j B' L L' b hi' hj'
  · intro i B L b hi
    have hi' : (i, B) ∈ m0 := by rcases hi with h | ⟨_, _, _, h, _⟩ <;> first | exact h | exact h.elim
    exact R.mem.wrt i B L b hi'
  · intro j Dj hj _ x hx _
    exact R.mem.fresh x (Nat.le_trans (hD j Dj hj) hx)
  · intro x hx; exact R.mem.fresh x (by omega)
  · exact R.mem.size
  · exact R.mem.frame
  · exact R.mem.keep
  · exact R.mem.side
  · exact R.defers
  · exact R.size
end
end Go.Sx
