/- The engine, part H: slices, strings and bytes, append and copy. -/
import Derived.Test.YtflkcganpgjkkaaDoorEngG
import Derived.Laws.BytesArg
import Derived.Laws.IdiomStrings
import Derived.Laws.Append
namespace Go.Sx
open Go
set_option linter.unusedSimpArgs false
set_option linter.unusedVariables false

section
variable {C : Ctx} {N : Nat} {ρ : Env} {fr : Fr} {m : Mem} {n : Nat} {a : Act} {w : World} {K : Kt} {T : List (Nat × List SV)} {call : CallT}

theorem loadCells_zero {P : Program} (A : Addr) (w : World) : (loadCells A 0).run P w = .ok #[] w := rfl

theorem srcSl_ok (R : MemOk C ρ m n w) {s : Nat} {v : SV} {F : Nat → List SV → Prop} (h : srcSl m s v F) {x : Value} (hx : v.is ρ x) (P : Program) :
    ∃ k l xs, F k l ∧ SV.isL ρ l xs ∧ (∀ y ∈ xs, y.oneCell' = true) ∧ xs.length = k * s ∧ (Builtin.lenOf x).run P w = .ok k w ∧
      (∀ w' : World, w'.heap = w.heap → ∀ j, j ≤ k → (Builtin.firstCells s j x).run P w' = .ok (xs.take (j * s)).toArray w') ∧ ∃ A c, x = .slice A k c := by
  unfold srcSl at h
  split at h
  · rename_i i o s' len cap
    obtain ⟨rfl, B, hB, hlen, hF⟩ := h
    obtain ⟨L, A, e1, e2, e3⟩ := by simpa only [SV.is] using hx
    obtain ⟨L', f1, f2⟩ := R.blk i B (rd_mem hB)
    rw [e1] at f1; cases f1
    cases hb : L.blk with
    | none =>
      have hc : B.cells = [] := by unfold Blk.okAt at f2; rw [hb] at f2; exact f2.1
      have hl0 : len * s' = 0 := by rw [hc] at hlen; simp at hlen; omega
      have hA : A = none := by
        rcases e3 with e3 | e3
        · rw [e3, hb]; rfl
        · exact e3.2.2.2 hb
      refine ⟨_, _, [], hF, ?_, by simp, by simp [hl0], by simp [e2, Builtin.lenOf], fun w' hw' j hj => ?_, A, _, e2⟩
      · rw [hl0]; simp [SV.isL]
      · rw [e2, hA]; simp [Builtin.firstCells]
    | some b =>
      have hc := blk_cells R hB e1 hb
      obtain ⟨xs, g1, g2, g3, g4⟩ := cells_list hc o (len * s') hlen
      refine ⟨_, _, xs, hF, g2, g3, g1, by simp [e2, Builtin.lenOf], fun w' hw' j hj => ?_, A, _, e2⟩
      rw [e2]
      by_cases h0 : j * s' = 0
      · rw [h0]
        cases A with
        | none => simp [Builtin.firstCells]
        | some A => simp [Builtin.firstCells, h0, loadCells_zero]
      · have hA : A = some ⟨b, L.st + o, none⟩ := by
          rcases e3 with e3 | e3
          · rw [e3, hb]; rfl
          · have hj0 : j = 0 := by omega
            subst hj0; simp at h0
        rw [hA]
        have hle : j * s' ≤ len * s' := Nat.mul_le_mul_right _ hj
        have := run_loadCells_list (P := P) w' ⟨b, L.st + o, none⟩ (xs.take (j * s')) (fun q v hq => by
          rw [Addr.add_mk, cell?_of_heap (w := w) (by rw [hw'])]; rw [List.getElem?_take] at hq
          split at hq
          · exact g4 q v hq
          · cases hq)
        rw [List.length_take, Nat.min_eq_left (by omega)] at this
        simpa [Builtin.firstCells] using this
  · have e := by simpa only [SV.is] using hx
    exact ⟨_, _, [], h, by simp [SV.isL], by simp, by simp, by simp [e, Builtin.lenOf], fun w' hw' j hj => by simp [e, Builtin.firstCells], _, _, e⟩
  · exact h.elim

/-- the source of an append, a copy -/
theorem srcOf_ok (R : MemOk C ρ m n w) {s : Nat} {v : SV} {F : Nat → List SV → Prop} (h : srcOf m s v F) {x : Value} (hx : v.is ρ x) (P : Program) :
    ∃ k l xs, F k l ∧ SV.isL ρ l xs ∧ (∀ y ∈ xs, y.oneCell' = true) ∧ xs.length = k * s ∧ (Builtin.lenOf x).run P w = .ok k w ∧
      (∀ w' : World, w'.heap = w.heap → ∀ j, j ≤ k → (Builtin.firstCells s j x).run P w' = .ok (xs.take (j * s)).toArray w') := by
  unfold srcOf at h
  split at h
  · rename_i t
    have e := by simpa only [SV.is] using hx
    obtain ⟨rfl, hF⟩ := h
    refine ⟨_, _, t.map (fun b => Value.int .u8 b.toNat), hF, ?_, ?_, by simp, by simp [e, Builtin.lenOf, ByteArray.size], fun w' _ j _ => ?_⟩
    · refine SV.isL_of_get (by simp) fun j v hj => ?_
      simp at hj
      obtain ⟨b, hb, rfl⟩ := hj
      exact ⟨.int .u8 b.toNat, by simp [hb], by simp [SV.byte, SV.is]⟩
    · intro y hy
      obtain ⟨b, _, rfl⟩ := List.mem_map.1 hy; rfl
    · rw [e]
      simp [Builtin.firstCells, ByteArray.extract_mk]
  · obtain ⟨k, l, xs, h1, h2, h3, h4, h5, h6, _⟩ := srcSl_ok R h hx P
    exact ⟨k, l, xs, h1, h2, h3, h4, h5, h6⟩

theorem u8_vals {ρ : Env} : ∀ {l : List SV} {xs : List Value}, l.all isU8 = true → SV.isL ρ l xs →
    ∃ ns : List Int, xs = ns.map (Value.int .u8) ∧ l.map byteOf = ns.map fun n => UInt8.ofNat n.toNat
  | [], xs, _, h => ⟨[], by simp only [SV.isL] at h; subst h; rfl, rfl⟩
  | v :: l, xs, hu, h => by
    simp only [List.all_cons, Bool.and_eq_true] at hu
    simp only [SV.isL] at h
    obtain ⟨y, ys, rfl, h2, h3⟩ := h
    obtain ⟨ns, e1, e2⟩ := u8_vals hu.2 h3
    have hv := hu.1
    unfold isU8 at hv
    split at hv
    · rename_i i
      have e := by simpa only [SV.is] using h2
      exact ⟨i :: ns, by simp [e, e1], by simp [byteOf, e2]⟩
    · cases hv

theorem b2s_op (R : Rel C N ρ fr m n a w) {s d e : TypeId} {o : Operand} {x : Opd} (h1 : opdOk o x = true)
    (hs : C.P.underlying s = some (.slice e)) (he : C.P.underlying e = some (.int .u8)) (hd : C.P.underlying d = some .string)
    (hk : exO T call fr m n K (.b2s x)) :
    ∃ y, (convert s d (a.eval o)).run C.P w = .ok y w ∧ Out C ρ K y w := by
  have hv := ev_is R h1
  simp only [exO] at hk
  obtain ⟨k, l, xs, ⟨f1, f2⟩, g1, g2, g3, g4, g5, A, c, hA⟩ := srcSl_ok R.mem hk hv C.P
  obtain ⟨ns, e1, e2⟩ := u8_vals f1 g1
  refine ⟨.string ⟨(l.map byteOf).toArray⟩, ?_, out_pure R f2 (by simp only [SV.is])⟩
  rw [hA, run_convert_bytes_string w s d e A k c hs he hd]
  have := g5 w rfl k (Nat.le_refl _)
  rw [hA] at this
  cases A with
  | none =>
    simp [Builtin.firstCells] at this
    have hx0 : xs = [] := by
      rcases this with h | h
      · subst h; simpa using g3
      · exact h
    rw [hx0] at e1
    have : ns = [] := by simpa using e1.symm
    rw [e2, this]
    simp [Conv.bytesToString, ByteArray.empty, ByteArray.emptyWithCapacity]
    rfl
  | some A =>
    simp only [Builtin.firstCells, Nat.mul_one] at this g3
    rw [List.take_of_length_le (by omega), e1] at this
    rw [run_bytesToString w A k c ns this, foldl_push_bytes, e2]
    simp [ByteArray.empty, ByteArray.emptyWithCapacity]
    rfl

theorem freeze_push (w : World) (h : Array Obj) (o : Obj) (cs : Array Value) (e : TypeId) (k : Nat) (hw : w.heap = h.push (.cells cs e (0, 0))) (hk : cs.size = k) :
    (w.freeze ⟨h.size, k, none⟩ 1).heap = h.push (.cells cs e (k, k + 1)) := by
  unfold World.freeze
  rw [if_neg (by decide)]
  simp only [hw]
  apply Array.ext
  · simp
  · intro i h1 h2
    simp only [Array.getElem_modify, Array.getElem_push]
    by_cases hi : i < h.size
    · simp [hi, Nat.ne_of_gt hi]
    · have : h.size = i := by simp at h1; omega
      subst this
      simp

theorem s2b_op (R : Rel C N ρ fr m n a w) {s d e : TypeId} {u : TypeDesc} {o : Operand} {x : Opd} (h1 : opdOk o x = true)
    (hs : C.P.underlying s = some u) (he : C.P.underlying e = some (.int .u8)) (hd : C.P.underlying d = some (.slice e)) (hk : exO T call fr m n K (.s2b e x)) :
    ∃ y w', (convert s d (a.eval o)).run C.P w = .ok y w' ∧ Out C ρ K y w' := by
  have hv := ev_is R h1
  simp only [exO] at hk
  split at hk
  · rename_i t ht
    rw [ht] at hv
    have ev := by simpa only [SV.is] using hv
    rw [ev]
    obtain ⟨cap, w1, hcap, hw1, hge, hsd⟩ : ∃ cap w1, (choose (.appendCap t.length 0 e)).run C.P w = .ok cap w1 ∧ w1.heap = w.heap ∧ t.length ≤ cap ∧ w1.os = w.os ∧ w1.output = w.output := by
      exact ⟨(Question.appendCap t.length 0 e).cut (w.tape w.drawn (.appendCap t.length 0 e)), { w with drawn := w.drawn + 1 }, by simp only [run_choose, Question.forced, Bool.false_eq_true, if_false], rfl, by simp [Question.cut], rfl, rfl⟩
    let elems : Array Value := (⟨t.toArray⟩ : ByteArray).data.map (fun b => Value.int .u8 b.toNat) ++ Array.replicate (cap - t.length) (Value.int .u8 0)
    have hsz : elems.size = cap := by simp [elems]; omega
    refine ⟨.slice (some ⟨w.heap.size, 0, none⟩) t.length cap, ({ w1 with heap := w.heap.push (.cells elems e (0, 0)) } : World).freeze ⟨w.heap.size, cap, none⟩ 1, ?_, ?_⟩
    · have hsh : ({ w1 with heap := w.heap.push (.cells elems e (0, 0)) } : World).shape? w.heap.size = some (e, cap) := by
        unfold World.shape?; simp [hsz]
      have hl : (⟨t.toArray⟩ : ByteArray).size = t.length := by simp [ByteArray.size]
      simp only [convert, Sem.run_bind, run_und hs, run_und hd, run_und he, Result.andThen_ok, Conv.stringToBytes, hl, hcap, newRow, run_newObj, hw1, Sem.run_pure, markStringish, run_shape]
      have : ({ heap := w.heap.push (.cells elems e (0, 0)), tape := w1.tape, drawn := w1.drawn, os := w1.os, output := w1.output } : World).shape? w.heap.size = some (e, cap) := hsh
      simp only [elems] at this ⊢
      rw [this]
      simp only [run_freeze, Result.andThen_ok]
    · have hfz : (({ w1 with heap := w.heap.push (.cells elems e (0, 0)) } : World).freeze ⟨w.heap.size, cap, none⟩ 1).heap = w.heap.push (.cells elems e (cap, cap + 1)) :=
        freeze_push _ w.heap (.cells elems e (0, 0)) elems e cap rfl hsz
      have hm := R.mem.alloc R.n0 elems e (cap, cap + 1) (t.map SV.byte) hfz (by simp only [World.freeze]; split <;> exact hsd) (.inr (by simp [hsz])) (by simp [hsz]; exact hge) (fun j v hj => by
        simp at hj
        obtain ⟨b, hb, rfl⟩ := hj
        refine ⟨.int .u8 b.toNat, ?_, by simp [SV.byte, SV.is], rfl⟩
        have hlt : j < t.length := by
          rcases Nat.lt_or_ge j t.length with h' | h'
          · exact h'
          · rw [List.getElem?_eq_none h'] at hb; cases hb
        simp only [elems]
        rw [Array.getElem?_append_left (by simpa using hlt)]
        simp [hb])
      refine ⟨_, _, _, _, Env.le_set (R.mem.fresh _ (Nat.le_refl _)), hk, ?_, hm, by have := R.n0; omega⟩
      simp only [SV.is]
      exact ⟨_, some ⟨w.heap.size, 0, none⟩, set_self, by simp [hsz], .inl rfl⟩
  · exact hk.elim
end
end Go.Sx
