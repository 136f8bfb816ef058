/- The engine, part B: the memory that a symbolic state describes. -/
import Derived.Test.YtflkcganpgjkkaaDoorEngA
namespace Go.Sx
open Go
set_option linter.unusedSimpArgs false
set_option linter.unusedVariables false

inductive Kind where
  | own (e : TypeId)
  | view

structure Blk where
  kind : Kind
  cells : List SV

abbrev Mem := List (Nat × Blk)

def Blk.cellsOk (ρ : Env) (w : World) (B : Blk) (b st : Nat) : Prop :=
  ∀ j v, B.cells[j]? = some v → ∃ x, w.cell? ⟨b, st + j, none⟩ = some x ∧ v.is ρ x ∧ x.oneCell' = true

def Blk.okAt (ρ : Env) (w : World) (B : Blk) (L : Loc) : Prop :=
  match L.blk with
  | none => B.cells = [] ∧ L.cap = 0
  | some b => b < w.heap.size ∧ B.cellsOk ρ w b L.st ∧
    match B.kind with
    | .view => True
    | .own e => L.st = 0 ∧ B.cells.length ≤ L.cap ∧
        ∃ cs fz, w.heap[b]? = some (.cells cs e fz) ∧ cs.size = L.cap ∧ (fz.2 ≤ fz.1 ∨ cs.size ≤ fz.1)

def Blk.own (B : Blk) : Prop := ∃ e, B.kind = .own e

structure Ctx where
  P : Program
  w0 : World
  ρ0 : Env
  n0 : Nat
  wr : Nat → Prop
  T : List (Nat × List SV)

structure MemOk (C : Ctx) (ρ : Env) (mem : Mem) (nxt : Nat) (w : World) : Prop where
  blk : ∀ i B, (i, B) ∈ mem → ∃ L, ρ i = some L ∧ B.okAt ρ w L
  apart : ∀ i B j B' L L' b, (i, B) ∈ mem → (j, B') ∈ mem → i ≠ j → B.own → ρ i = some L → ρ j = some L' → L.blk = some b → L'.blk ≠ some b
  fresh : ∀ i, nxt ≤ i → ρ i = none
  wrt : ∀ i B L b, (i, B) ∈ mem → B.own → ρ i = some L → L.blk = some b → C.w0.heap.size ≤ b ∨ C.wr b
  size : C.w0.heap.size ≤ w.heap.size
  frame : ∀ b, b < C.w0.heap.size → ¬ C.wr b → w.heap[b]? = C.w0.heap[b]?
  keep : ∀ i, i < C.n0 → ρ i = C.ρ0 i
  side : w.os = C.w0.os ∧ w.output = C.w0.output

/-- the tables: cells of package variables that nobody writes -/
def TabOk (T : List (Nat × List SV)) (w : World) : Prop :=
  ∀ g cs, (g, cs) ∈ T → g < w.heap.size ∧ ∀ (j : Nat) v, cs[j]? = some v → ∃ x, w.cell? ⟨g, j, none⟩ = some x ∧ v.is (fun _ => none) x ∧ x.oneCell' = true

theorem cell?_of_heap {w w' : World} {b o : Nat} (h : w'.heap[b]? = w.heap[b]?) : w'.cell? ⟨b, o, none⟩ = w.cell? ⟨b, o, none⟩ := by
  unfold World.cell?; rw [h]

theorem cell?_cells {w : World} {b o : Nat} {cs : Array Value} {e : TypeId} {fz : Nat × Nat} (h : w.heap[b]? = some (.cells cs e fz)) :
    w.cell? ⟨b, o, none⟩ = cs[o]? := by
  obtain ⟨lo, hi⟩ := fz
  unfold World.cell?; rw [h]; simp

theorem cell?_lt {w : World} {b o : Nat} {x : Value} (h : w.cell? ⟨b, o, none⟩ = some x) : b < w.heap.size := by
  unfold World.cell? at h
  rcases Nat.lt_or_ge b w.heap.size with h' | h'
  · exact h'
  · simp [Array.getElem?_eq_none h'] at h

theorem Blk.cellsOk.mono {ρ ρ' : Env} {w w' : World} {B : Blk} {b st : Nat} (h : B.cellsOk ρ w b st) (hρ : ρ.le ρ')
    (hw : w'.heap[b]? = w.heap[b]?) : B.cellsOk ρ' w' b st := fun j v hj =>
  let ⟨x, h1, h2, h3⟩ := h j v hj
  ⟨x, by rw [cell?_of_heap hw]; exact h1, SV.is_mono hρ v x h2, h3⟩

theorem Blk.okAt.mono {ρ ρ' : Env} {w w' : World} {B : Blk} {L : Loc} (h : B.okAt ρ w L) (hρ : ρ.le ρ')
    (hw : ∀ b, L.blk = some b → w'.heap[b]? = w.heap[b]?) (hs : w.heap.size ≤ w'.heap.size) : B.okAt ρ' w' L := by
  unfold Blk.okAt at *
  cases hb : L.blk with
  | none => simpa [hb] using h
  | some b =>
    simp only [hb] at h ⊢
    obtain ⟨h1, h2, h3⟩ := h
    refine ⟨by omega, h2.mono hρ (hw b hb), ?_⟩
    cases hk : B.kind with
    | view => trivial
    | own e =>
      simp only [hk] at h3
      simp only
      rw [hw b hb]; exact h3

theorem MemOk.heap_eq {C : Ctx} {ρ : Env} {mem : Mem} {nxt : Nat} {w w' : World} (h : MemOk C ρ mem nxt w) (he : w'.heap = w.heap) (hsd : w'.os = w.os ∧ w'.output = w.output) : MemOk C ρ mem nxt w' where
  blk i B hi := let ⟨L, h1, h2⟩ := h.blk i B hi; ⟨L, h1, h2.mono (Env.le_refl _) (fun b _ => by rw [he]) (by rw [he]; omega)⟩
  apart := h.apart
  fresh := h.fresh
  wrt := h.wrt
  size := by rw [he]; exact h.size
  frame := by rw [he]; exact h.frame
  keep := h.keep
  side := ⟨hsd.1.trans h.side.1, hsd.2.trans h.side.2⟩

theorem MemOk.sub {C : Ctx} {ρ : Env} {mem mem' : Mem} {nxt nxt' : Nat} {w : World} (h : MemOk C ρ mem nxt w) (hs : ∀ x ∈ mem', x ∈ mem) (hn : nxt ≤ nxt') : MemOk C ρ mem' nxt' w where
  blk i B hi := h.blk i B (hs _ hi)
  apart i B j B' L L' b hi hj := h.apart i B j B' L L' b (hs _ hi) (hs _ hj)
  fresh i hi := h.fresh i (by omega)
  wrt i B L b hi := h.wrt i B L b (hs _ hi)
  size := h.size
  frame := h.frame
  keep := h.keep
  side := h.side

def Env.set (ρ : Env) (i : Nat) (L : Loc) : Env := fun j => if j = i then some L else ρ j
theorem Env.le_set {ρ : Env} {i : Nat} {L : Loc} (h : ρ i = none) : ρ.le (ρ.set i L) := fun j L' hj => by
  unfold Env.set; split
  · rename_i e; subst e; rw [h] at hj; cases hj
  · exact hj

theorem MemOk.alloc {C : Ctx} {ρ : Env} {mem : Mem} {nxt : Nat} {w w' : World} (h : MemOk C ρ mem nxt w) (hn : C.n0 ≤ nxt)
    (cs : Array Value) (e : TypeId) (fz : Nat × Nat) (vs : List SV) (hw : w'.heap = w.heap.push (.cells cs e fz)) (hsd : w'.os = w.os ∧ w'.output = w.output)
    (hfz : fz.2 ≤ fz.1 ∨ cs.size ≤ fz.1) (hlen : vs.length ≤ cs.size)
    (hcs : ∀ (j : Nat) (v : SV), vs[j]? = some v → ∃ x, cs[j]? = some x ∧ v.is ρ x ∧ x.oneCell' = true) :
    MemOk C (ρ.set nxt ⟨some w.heap.size, 0, cs.size⟩) ((nxt, ⟨.own e, vs⟩) :: mem) (nxt + 1) w' := by
  have hle : ρ.le (ρ.set nxt ⟨some w.heap.size, 0, cs.size⟩) := Env.le_set (h.fresh _ (Nat.le_refl _))
  have hold : ∀ b, b < w.heap.size → w'.heap[b]? = w.heap[b]? := fun b hb => by rw [hw, Array.getElem?_push_lt hb]; simp [hb]
  have hnew : w'.heap[w.heap.size]? = some (.cells cs e fz) := by rw [hw]; simp
  have hsz : w'.heap.size = w.heap.size + 1 := by rw [hw]; simp
  have hin : ∀ i B L b, (i, B) ∈ mem → ρ i = some L → L.blk = some b → b < w.heap.size := fun i B L b hi hL hb => by
    obtain ⟨L', h1, h2⟩ := h.blk i B hi
    rw [hL] at h1; cases h1
    unfold Blk.okAt at h2; rw [hb] at h2; exact h2.1
  have hne : ∀ i B, (i, B) ∈ mem → i ≠ nxt := fun i B hi e => by
    obtain ⟨L', h1, _⟩ := h.blk i B hi
    rw [e, h.fresh _ (Nat.le_refl _)] at h1; cases h1
  have hset : ∀ i B, (i, B) ∈ mem → (ρ.set nxt ⟨some w.heap.size, 0, cs.size⟩) i = ρ i := fun i B hi => by
    unfold Env.set; rw [if_neg (hne i B hi)]
  have hself : (ρ.set nxt ⟨some w.heap.size, 0, cs.size⟩) nxt = some ⟨some w.heap.size, 0, cs.size⟩ := by unfold Env.set; rw [if_pos rfl]
  constructor
  · intro i B hi
    rcases List.mem_cons.1 hi with hi | hi
    · cases hi
      refine ⟨_, hself, ?_⟩
      unfold Blk.okAt
      refine ⟨by omega, fun j v hj => ?_, rfl, hlen, cs, fz, hnew, rfl, hfz⟩
      obtain ⟨x, h1, h2, h3⟩ := hcs j v hj
      exact ⟨x, by rw [cell?_cells hnew]; simpa using h1, SV.is_mono hle v x h2, h3⟩
    · obtain ⟨L, h1, h2⟩ := h.blk i B hi
      exact ⟨L, by rw [hset i B hi]; exact h1, h2.mono hle (fun b hb => hold b (hin i B L b hi h1 hb)) (by omega)⟩
  · intro i B j B' L L' b hi hj hij hown hL hL' hb
    rcases List.mem_cons.1 hi with hi | hi
    · cases hi
      rw [hself] at hL; cases hL; simp at hb; subst hb
      rcases List.mem_cons.1 hj with hj | hj
      · cases hj; exact (hij rfl).elim
      · rw [hset j B' hj] at hL'
        intro hb'; have := hin j B' L' _ hj hL' hb'; omega
    · rw [hset i B hi] at hL
      rcases List.mem_cons.1 hj with hj | hj
      · cases hj
        rw [hself] at hL'; cases hL'; simp
        have := hin i B L b hi hL hb; omega
      · rw [hset j B' hj] at hL'
        exact h.apart i B j B' L L' b hi hj hij hown hL hL' hb
  · intro i hi
    have := h.fresh i (by omega)
    unfold Env.set; rw [if_neg (by omega)]; exact this
  · intro i B L b hi hown hL hb
    rcases List.mem_cons.1 hi with hi | hi
    · cases hi
      rw [hself] at hL; cases hL; simp at hb; subst hb
      exact .inl h.size
    · rw [hset i B hi] at hL
      exact h.wrt i B L b hi hown hL hb
  · have := h.size; omega
  · intro b hb hwr
    have := h.size
    rw [hold b (by omega)]; exact h.frame b hb hwr
  · intro i hi
    unfold Env.set; rw [if_neg (by omega)]; exact h.keep i hi
  · exact ⟨hsd.1.trans h.side.1, hsd.2.trans h.side.2⟩

def upd (mem : Mem) (i : Nat) (B : Blk) : Mem := mem.map fun x => if x.1 = i then (i, B) else x

theorem mem_upd {mem : Mem} {i : Nat} {B : Blk} {x : Nat × Blk} (h : x ∈ upd mem i B) : (x = (i, B)) ∨ (x ∈ mem ∧ x.1 ≠ i) := by
  unfold upd at h
  obtain ⟨y, hy, rfl⟩ := List.mem_map.1 h
  split
  · exact .inl rfl
  · rename_i hne; exact .inr ⟨hy, hne⟩

theorem MemOk.write {C : Ctx} {ρ : Env} {mem : Mem} {nxt : Nat} {w w' : World} (h : MemOk C ρ mem nxt w)
    {i : Nat} {B : Blk} {e : TypeId} {L : Loc} {b : Nat} (hi : (i, B) ∈ mem) (hk : B.kind = .own e) (hL : ρ i = some L) (hb : L.blk = some b)
    (cs : Array Value) (fz : Nat × Nat) (vs : List SV) (hnew : w'.heap[b]? = some (.cells cs e fz)) (hsz : w'.heap.size = w.heap.size) (hsd : w'.os = w.os ∧ w'.output = w.output)
    (hold : ∀ b', b' ≠ b → w'.heap[b']? = w.heap[b']?) (hcap : cs.size = L.cap) (hfz : fz.2 ≤ fz.1 ∨ cs.size ≤ fz.1) (hlen : vs.length ≤ cs.size)
    (hcs : ∀ (j : Nat) (v : SV), vs[j]? = some v → ∃ x, cs[j]? = some x ∧ v.is ρ x ∧ x.oneCell' = true) :
    MemOk C ρ (upd mem i ⟨.own e, vs⟩) nxt w' := by
  have hown : B.own := ⟨e, hk⟩
  have hst : L.st = 0 := by
    obtain ⟨L', h1, h2⟩ := h.blk i B hi
    rw [hL] at h1; cases h1
    unfold Blk.okAt at h2; rw [hb] at h2; simp only [hk] at h2; exact h2.2.2.1
  have hne : ∀ j B' L', (j, B') ∈ mem → j ≠ i → ρ j = some L' → L'.blk ≠ some b := fun j B' L' hj hji hL' =>
    h.apart i B j B' L L' b hi hj (Ne.symm hji) hown hL hL' hb
  constructor
  · intro j B' hj
    rcases mem_upd hj with hj | ⟨hj, hji⟩
    · cases hj
      refine ⟨L, hL, ?_⟩
      unfold Blk.okAt; rw [hb]
      have hlt : b < w'.heap.size := by
        rcases Nat.lt_or_ge b w'.heap.size with h' | h'
        · exact h'
        · rw [Array.getElem?_eq_none h'] at hnew; cases hnew
      refine ⟨hlt, fun j v hj => ?_, hst, by rw [← hcap]; exact hlen, cs, fz, hnew, hcap, hfz⟩
      obtain ⟨x, h1, h2, h3⟩ := hcs j v hj
      exact ⟨x, by rw [cell?_cells hnew, hst]; simpa using h1, h2, h3⟩
    · obtain ⟨L', h1, h2⟩ := h.blk j B' hj
      exact ⟨L', h1, h2.mono (Env.le_refl _) (fun b' hb' => hold b' (fun e => hne j B' L' hj hji h1 (e ▸ hb'))) (by omega)⟩
  · intro j B' k B'' L1 L2 b' hj hk' hjk hown' h1 h2 h3
    rcases mem_upd hj with hj | ⟨hj, hji⟩
    · cases hj
      rcases mem_upd hk' with hk' | ⟨hk', hki⟩
      · cases hk'; exact (hjk rfl).elim
      · exact h.apart i B k B'' L1 L2 b' hi hk' hjk hown h1 h2 h3
    · rcases mem_upd hk' with hk' | ⟨hk', hki⟩
      · cases hk'; exact h.apart j B' i B L1 L2 b' hj hi hjk hown' h1 h2 h3
      · exact h.apart j B' k B'' L1 L2 b' hj hk' hjk hown' h1 h2 h3
  · exact h.fresh
  · intro j B' L1 b' hj hown' h1 h2
    rcases mem_upd hj with hj | ⟨hj, hji⟩
    · cases hj; exact h.wrt i B L1 b' hi hown h1 h2
    · exact h.wrt j B' L1 b' hj hown' h1 h2
  · rw [hsz]; exact h.size
  · intro b' hb' hwr
    by_cases heq : b' = b
    · subst heq
      rcases h.wrt i B L b' hi hown hL hb with h1 | h1
      · omega
      · exact (hwr h1).elim
    · rw [hold b' heq]; exact h.frame b' hb' hwr
  · exact h.keep
  · exact ⟨hsd.1.trans h.side.1, hsd.2.trans h.side.2⟩
end Go.Sx
