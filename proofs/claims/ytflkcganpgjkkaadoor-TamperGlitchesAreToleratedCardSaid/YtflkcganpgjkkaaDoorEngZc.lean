/- The engine, part Zc: arguments of plain data (with slices of plain data) in the engine's form; what they read as behind a call that keeps memory. -/
import Derived.Test.YtflkcganpgjkkaaDoorEngZb
namespace Go.Sx
open Go Go.WideShapes Go.ChangeShapes
set_option linter.unusedSimpArgs false
set_option linter.unusedVariables false

/- the symbolic form -/
def TagSV : Tag → SV → Prop
  | .i k, v => ∃ n, v = .int k n ∧ (Lit.int k n).wf = true
  | .b, v => ∃ b, v = .bool b
  | .s, v => ∃ s : List UInt8, v = .str s ∧ s.length ≤ maxLen
def TagsSV : List Tag → List SV → Prop
  | [], vs => vs = []
  | t :: ts, vs => ∃ v r, vs = v :: r ∧ TagSV t v ∧ TagsSV ts r
def RowsSV (ks : List Tag) : Nat → List SV → Prop
  | 0, cs => cs = []
  | n + 1, cs => ∃ r cs', cs = r ++ cs' ∧ TagsSV ks r ∧ RowsSV ks n cs'
def Opn : List LK → Nat → List SV → Mem → Nat → Prop
  | [], n, vs, m, n' => vs = [] ∧ m = [] ∧ n' = n
  | .t t :: ks, n, vs, m, n' => ∃ v r, vs = v :: r ∧ TagSV t v ∧ Opn ks n r m n'
  | .sl tags :: ks, n, vs, m, n' => ∃ len cells r m', vs = .slc n 0 tags.length len none :: r ∧ m = (n, ⟨.view, cells⟩) :: m' ∧ len ≤ maxLen ∧ RowsSV tags len cells ∧ Opn ks (n + 1) r m' n'
def Opns : List (Bool × List LK) → Nat → List SV → Mem → Nat → Prop
  | [], n, vs, m, n' => vs = [] ∧ m = [] ∧ n' = n
  | (true, ks) :: r, n, vs, m, n' => ∃ l vs' m1 m2 n1, vs = .agg l :: vs' ∧ m = m1 ++ m2 ∧ Opn ks n l m1 n1 ∧ Opns r n1 vs' m2 n'
  | (false, ks) :: r, n, vs, m, n' => ∃ v vs' m1 m2 n1, vs = v :: vs' ∧ m = m1 ++ m2 ∧ Opn ks n [v] m1 n1 ∧ Opns r n1 vs' m2 n'

def argLay (P : Program) (d : Nat) : List TypeId → Option (List (Bool × List LK))
  | [] => some []
  | t :: ts => match lkT P d t, argLay P d ts with
    | some l, some r => some (((match P.underlying t with | some (.struct _) | some (.array _ _) => true | _ => false), l) :: r)
    | _, _ => none

def ViewsOk (w : World) (ρ : Env) (n n' : Nat) (m : Mem) : Prop := ∀ i B, (i, B) ∈ m → B.kind = .view ∧ n ≤ i ∧ i < n' ∧ ∃ L, ρ i = some L ∧ B.okAt ρ w L

theorem TagOk.sv {t : Tag} {v : Value} (h : TagOk t v) : ∃ s, TagSV t s ∧ v.oneCell' = true ∧ ∀ ρ, s.is ρ v := by
  cases t with
  | i k => obtain ⟨n, rfl, hw⟩ := h; exact ⟨.int k n, ⟨n, rfl, hw⟩, rfl, fun ρ => by simp [SV.is]⟩
  | b => obtain ⟨b, rfl⟩ := h; exact ⟨.bool b, ⟨b, rfl⟩, rfl, fun ρ => by simp [SV.is]⟩
  | s => obtain ⟨s, rfl, hl⟩ := h; exact ⟨.str s, ⟨s, rfl, hl⟩, rfl, fun ρ => by simp [SV.is]⟩

theorem tags_sv {cell : Nat → Option Value} : ∀ (ks : List Tag) (o : Nat), (∀ (j : Nat) k, ks[j]? = some k → ∃ x, cell (o + j) = some x ∧ TagOk k x) →
    ∃ vs, TagsSV ks vs ∧ vs.length = ks.length ∧ ∀ (j : Nat) v, vs[j]? = some v → ∃ x, cell (o + j) = some x ∧ x.oneCell' = true ∧ ∀ ρ, v.is ρ x
  | [], o, _ => ⟨[], rfl, rfl, fun j v hj => by simp at hj⟩
  | k :: ks, o, h => by
    obtain ⟨x, hx, ht⟩ := h 0 k rfl
    obtain ⟨s, h1, h2, h3⟩ := ht.sv
    obtain ⟨vs, g1, g2, g3⟩ := tags_sv (cell := cell) ks (o + 1) (fun j k hk => by
      have := h (j + 1) k (by simpa using hk)
      rwa [show o + (j + 1) = o + 1 + j by omega] at this)
    refine ⟨s :: vs, ⟨s, vs, rfl, h1, g1⟩, by simp [g2], fun j v hj => ?_⟩
    cases j with
    | zero => simp at hj; subst hj; exact ⟨x, by simpa using hx, h2, h3⟩
    | succ j =>
      have := g3 j v (by simpa using hj)
      rwa [show o + 1 + j = o + (j + 1) by omega] at this

theorem rows_sv {cell : Nat → Option Value} (ks : List Tag) : ∀ (len o : Nat), (∀ i, i < len → ∀ (j : Nat) k, ks[j]? = some k → ∃ x, cell (o + (i * ks.length + j)) = some x ∧ TagOk k x) →
    ∃ vs, RowsSV ks len vs ∧ vs.length = len * ks.length ∧ ∀ (j : Nat) v, vs[j]? = some v → ∃ x, cell (o + j) = some x ∧ x.oneCell' = true ∧ ∀ ρ, v.is ρ x
  | 0, o, _ => ⟨[], rfl, by simp, fun j v hj => by simp at hj⟩
  | len + 1, o, h => by
    obtain ⟨r, h1, h2, h3⟩ := tags_sv (cell := cell) ks o (fun j k hk => by simpa using h 0 (by omega) j k hk)
    obtain ⟨vs, g1, g2, g3⟩ := rows_sv (cell := cell) ks len (o + ks.length) (fun i hi j k hk => by
      have := h (i + 1) (by omega) j k hk
      rwa [show o + ((i + 1) * ks.length + j) = o + ks.length + (i * ks.length + j) by rw [Nat.add_mul]; omega] at this)
    refine ⟨r ++ vs, ⟨r, vs, rfl, h1, g1⟩, by simp [h2, g2, Nat.add_mul, Nat.add_comm], fun j v hj => ?_⟩
    by_cases hjr : j < r.length
    · rw [List.getElem?_append_left hjr] at hj; exact h3 j v hj
    · rw [List.getElem?_append_right (by omega)] at hj
      have := g3 _ v hj
      rwa [show o + ks.length + (j - r.length) = o + j by omega] at this

theorem opn_of {w : World} (h0 : 0 < w.heap.size) : ∀ {lks : List LK} {cs : List Value} (ρ : Env) (n : Nat), Lks w lks cs → (∀ i, n ≤ i → ρ i = none) →
    ∃ ρ' svs m n', ρ.le ρ' ∧ n ≤ n' ∧ (∀ i, n' ≤ i → ρ' i = none) ∧ Opn lks n svs m n' ∧ SV.isL ρ' svs cs ∧ (∀ y ∈ cs, y.oneCell' = true) ∧ ViewsOk w ρ' n n' m
  | _, _, ρ, n, .nil, hf => ⟨ρ, [], [], n, Env.le_refl _, Nat.le_refl _, hf, ⟨rfl, rfl, rfl⟩, by simp [SV.isL], by simp, fun i B h => by simp at h⟩
  | .t t :: ks, v :: vs, ρ, n, .cons h1 h2, hf => by
    obtain ⟨s, g1, g2, g3⟩ := TagOk.sv h1
    obtain ⟨ρ', svs, m, n', q1, q2, q3, q4, q5, q6, q7⟩ := opn_of h0 ρ n h2 hf
    refine ⟨ρ', s :: svs, m, n', q1, q2, q3, ⟨s, svs, rfl, g1, q4⟩, ?_, ?_, q7⟩
    · simp only [SV.isL]; exact ⟨v, vs, rfl, g3 _, q5⟩
    · intro y hy
      rcases List.mem_cons.1 hy with rfl | hy
      · exact g2
      · exact q6 y hy
  | .sl tg :: ks, v :: vs, ρ, n, .cons h1 h2, hf => by
    obtain ⟨A, len, cap, rfl, hlc, hcm, hpos, hnil, hblk, hcell⟩ := h1
    -- where it lies
    have key : ∃ (L : Loc) (cells : List SV), RowsSV tg len cells ∧ (∀ ρ, Blk.okAt ρ w ⟨.view, cells⟩ L) ∧ ∀ ρ : Env, ρ n = some L → (SV.slc n 0 tg.length len none).is ρ (.slice A len cap) := by
      by_cases hc : 0 < cap
      · cases A with
        | none => exact absurd (hnil rfl) (by omega)
        | some a =>
          obtain ⟨hs, hb⟩ := hblk a rfl hc
          obtain ⟨cells, r1, r2, r3⟩ := rows_sv (cell := fun o => w.cell? ⟨a.block, o, none⟩) tg len a.off (fun i hi j k hk => hcell a rfl i hi j k hk)
          refine ⟨⟨some a.block, a.off, cap * tg.length⟩, cells, r1, fun ρ => ?_, fun ρ hρ => ?_⟩
          · unfold Blk.okAt
            exact ⟨hb, fun j v hj => let ⟨x, e1, e2, e3⟩ := r3 j v hj; ⟨x, e1, e3 ρ, e2⟩, trivial⟩
          · simp only [SV.is]
            refine ⟨_, some a, hρ, ?_, .inl ?_⟩
            · simp [Nat.mul_div_cancel _ hpos]
            · obtain ⟨b, o, s⟩ := a
              simp only at hs; subst hs; simp
      · obtain rfl : cap = 0 := by omega
        obtain rfl : len = 0 := by omega
        cases A with
        | none =>
          refine ⟨⟨none, 0, 0⟩, [], rfl, fun ρ => ?_, fun ρ hρ => ?_⟩
          · unfold Blk.okAt; exact ⟨rfl, rfl⟩
          · simp only [SV.is]; exact ⟨_, none, hρ, by simp, .inl rfl⟩
        | some a =>
          refine ⟨⟨some 0, 0, 0⟩, [], rfl, fun ρ => ?_, fun ρ hρ => ?_⟩
          · unfold Blk.okAt; exact ⟨h0, fun j v hj => by simp at hj, trivial⟩
          · simp only [SV.is]; exact ⟨_, some a, hρ, by simp, .inr (by simp)⟩
    obtain ⟨L, cells, r1, r2, r3⟩ := key
    have hn : ρ n = none := hf n (Nat.le_refl _)
    have hle : ρ.le (ρ.set n L) := Env.le_set hn
    obtain ⟨ρ', svs, m, n', q1, q2, q3, q4, q5, q6, q7⟩ := opn_of h0 (ρ.set n L) (n + 1) h2 (fun i hi => by unfold Env.set; rw [if_neg (by omega)]; exact hf i (by omega))
    have hL : ρ' n = some L := q1 n L (by unfold Env.set; rw [if_pos rfl])
    refine ⟨ρ', _, _, n', Env.le_trans hle q1, by omega, q3, ⟨len, cells, svs, m, rfl, rfl, by omega, r1, q4⟩, ?_, ?_, ?_⟩
    · simp only [SV.isL]; exact ⟨_, _, rfl, r3 ρ' hL, q5⟩
    · intro y hy
      rcases List.mem_cons.1 hy with rfl | hy
      · rfl
      · exact q6 y hy
    · intro i B hi
      rcases List.mem_cons.1 hi with hi | hi
      · cases hi; exact ⟨rfl, Nat.le_refl _, by omega, L, hL, r2 ρ'⟩
      · obtain ⟨e1, e2, e3, e4⟩ := q7 i B hi
        exact ⟨e1, by omega, e3, e4⟩

theorem Opn.mono {w : World} {ρ ρ' : Env} {n n' n2 : Nat} {m : Mem} (h : ViewsOk w ρ n n' m) (hle : ρ.le ρ') (hn : n' ≤ n2) : ViewsOk w ρ' n n2 m := fun i B hi => by
  obtain ⟨e1, e2, e3, L, e4, e5⟩ := h i B hi
  exact ⟨e1, e2, by omega, L, hle _ _ e4, e5.mono hle (fun _ _ => rfl) (Nat.le_refl _)⟩

section
variable {H : Type} {enc : TypeId × Value → H} {P : Program} {w : World}

theorem Lks.len {w : World} : ∀ {l : List LK} {cs : List Value}, Lks w l cs → cs.length = l.length
  | _, _, .nil => rfl
  | _, _, .cons _ h => by simp [Lks.len h]

theorem arg_lks {d : Nat} {t : TypeId} {l : List LK} {v : Value} {x : DataW H} {ps : List MemPlace} {b : Nat} (hl : lkT P d t = some l) (hv : Value.okWide P w .any b t v)
    (h : DataW.Trod enc P w 0 (fun _ => true) true t v x ps) :
    (match P.underlying t with | some (.struct _) | some (.array _ _) => ∃ cs, v = .agg cs.toArray ∧ Lks w l cs | _ => Lks w l [v]) := by
  obtain ⟨fuel, h⟩ := h
  have key := trod_lks fuel d t _ l _ hl h
  have hv' := hv
  unfold Value.okWide at hv'
  cases d with
  | zero => simp [lkT] at hl
  | succ d =>
    simp only [lkT] at hl
    split at hl
    · rename_i hu; simp only [hu]; obtain ⟨b, rfl⟩ := okWide_bool hu hv; exact key
    · rename_i hu; simp only [hu]; obtain ⟨b, rfl⟩ := okWide_int hu hv; exact key
    · rename_i hu; simp only [hu]; obtain ⟨b, rfl⟩ := okWide_string hu hv; exact key
    · rename_i hu; simp only [hu]; obtain ⟨a, len, cap, rfl⟩ := okWide_slice hu hv; exact key
    · rename_i hu; simp only [hu] at hv' ⊢; obtain ⟨cs, rfl, _⟩ := hv'; exact ⟨cs.toList, by simp, key⟩
    · rename_i hu; simp only [hu] at hv' ⊢; obtain ⟨cs, rfl, _⟩ := hv'; exact ⟨cs.toList, by simp, key⟩
    · cases hl

theorem opns_of (h0 : 0 < w.heap.size) {d b : Nat} : ∀ {ts : List TypeId} {sh : List (Bool × List LK)} {vs : List Value} {ds : List (DataW H)} {ps : List MemPlace} (ρ : Env) (n : Nat), argLay P d ts = some sh →
    (∀ (j : Nat) t v, ts[j]? = some t → vs[j]? = some v → Value.okWide P w .any b t v) → DataW.TrodAll enc P w 0 (fun _ => true) true ts vs ds ps → (∀ i, n ≤ i → ρ i = none) →
    ∃ ρ' svs m n', ρ.le ρ' ∧ n ≤ n' ∧ (∀ i, n' ≤ i → ρ' i = none) ∧ Opns sh n svs m n' ∧ SV.isL ρ' svs vs ∧ ViewsOk w ρ' n n' m
  | [], sh, vs, ds, ps, ρ, n, hs, hv, h, hf => by
    obtain ⟨rfl, rfl, rfl⟩ := trodAll_nil h
    simp only [argLay, Option.some.injEq] at hs; subst hs
    exact ⟨ρ, [], [], n, Env.le_refl _, Nat.le_refl _, hf, ⟨rfl, rfl, rfl⟩, by simp [SV.isL], fun i B h => by simp at h⟩
  | t :: ts, sh, vs, ds, ps, ρ, n, hs, hv, h, hf => by
    obtain ⟨v, vs', d', ds', p, q, rfl, rfl, rfl, h1, h2⟩ := trodAll_cons h
    simp only [argLay] at hs
    split at hs
    rotate_left
    · cases hs
    rename_i l r hl hr
    cases hs
    have ha := arg_lks hl (hv 0 t v rfl rfl) h1
    have hrest := fun ρ n (hf : ∀ i, n ≤ i → ρ i = none) => opns_of h0 ρ n hr (fun j t v ht hvv => hv (j + 1) t v (by simpa using ht) (by simpa using hvv)) h2 hf
    by_cases hag : (match P.underlying t with | some (.struct _) | some (.array _ _) => true | _ => false) = true
    · have ha' : ∃ cs, v = .agg cs.toArray ∧ Lks w l cs := by
        split at ha
        · exact ha
        · exact ha
        · rename_i x1 x2
          split at hag
          · exact absurd (by assumption) (x1 _)
          · exact absurd (by assumption) (x2 _ _)
          · cases hag
      obtain ⟨cs, rfl, hk⟩ := ha'
      obtain ⟨ρ1, svs, m1, n1, q1, q2, q3, q4, q5, q6, q7⟩ := opn_of h0 ρ n hk hf
      obtain ⟨ρ2, svs', m2, n2, r1, r2, r3, r4, r5, r6⟩ := hrest ρ1 n1 q3
      refine ⟨ρ2, .agg svs :: svs', m1 ++ m2, n2, Env.le_trans q1 r1, by omega, r3, ?_, ?_, ?_⟩
      · rw [hag]; exact ⟨svs, svs', m1, m2, n1, rfl, rfl, q4, r4⟩
      · simp only [SV.isL, SV.is]; exact ⟨_, _, rfl, ⟨cs, SV.isL_mono r1 _ _ q5, q6, rfl⟩, r5⟩
      · intro i B hi
        rcases List.mem_append.1 hi with hi | hi
        · exact Opn.mono q7 r1 r2 i B hi
        · obtain ⟨e1, e2, e3⟩ := r6 i B hi; exact ⟨e1, by omega, e3⟩
    · have hag' : (match P.underlying t with | some (.struct _) | some (.array _ _) => true | _ => false) = false := by simpa using hag
      have ha' : Lks w l [v] := by
        split at ha
        · rename_i hu; simp [hu] at hag
        · rename_i hu; simp [hu] at hag
        · exact ha
      obtain ⟨ρ1, svs, m1, n1, q1, q2, q3, q4, q5, q6, q7⟩ := opn_of h0 ρ n ha' hf
      obtain ⟨ρ2, svs', m2, n2, r1, r2, r3, r4, r5, r6⟩ := hrest ρ1 n1 q3
      have hlen := SV.isL_length q5
      obtain ⟨s, rfl⟩ : ∃ s, svs = [s] := by
        match svs, hlen with
        | [s], _ => exact ⟨s, rfl⟩
      refine ⟨ρ2, s :: svs', m1 ++ m2, n2, Env.le_trans q1 r1, by omega, r3, ?_, ?_, ?_⟩
      · rw [hag']; exact ⟨s, svs', m1, m2, n1, rfl, rfl, q4, r4⟩
      · simp only [SV.isL] at q5 ⊢
        obtain ⟨y, ys, e, e1, _⟩ := q5
        cases e
        exact ⟨_, _, rfl, SV.is_mono r1 _ _ e1, r5⟩
      · intro i B hi
        rcases List.mem_append.1 hi with hi | hi
        · exact Opn.mono q7 r1 r2 i B hi
        · obtain ⟨e1, e2, e3⟩ := r6 i B hi; exact ⟨e1, by omega, e3⟩
end

/- what is read behind the call -/
section
variable {H : Type} {enc : TypeId × Value → H} {P : Program} {w w' : World} {sp : Nat → Bool} {hd : Bool}

theorem mapM_carry {α β : Type} {f g : α → Option β} : ∀ {l : List α} {r : List β}, l.mapM f = some r → (∀ x ∈ l, ∀ y, f x = some y → g x = some y) → l.mapM g = some r
  | [], r, h, _ => by simpa using h
  | a :: l, r, h, hg => by
    obtain ⟨y, ys, h1, h2, rfl⟩ := mapM_some_cons h
    rw [List.mapM_cons, hg a List.mem_cons_self y h1, mapM_carry h2 fun x hx => hg x (List.mem_cons_of_mem _ hx)]; rfl

theorem trod_kept (hh : ∀ b, b < w.heap.size → w'.heap[b]? = w.heap[b]?) (hsp : ∀ b, b < w.heap.size → sp b = true) :
    ∀ (fuel d : Nat) (t : TypeId) (cs : List Value) (l : List LK) (x : DataW H × List MemPlace), lkT P d t = some l →
      DataW.trod enc P w 0 (fun _ => true) hd fuel t cs = some x → DataW.trod enc P w' 0 sp hd fuel t cs = some x
  | 0, d, t, cs, l, x, _, hx => by simp [DataW.trod] at hx
  | fuel + 1, 0, t, cs, l, x, h, _ => by simp [lkT] at h
  | fuel + 1, d + 1, t, cs, l, x, h, hx => by
    have hxx := hx
    simp only [lkT] at h
    have hcell : ∀ a y, w.cell? a = some y → w'.cell? a = some y := fun a y hy => by
      have hb := cell?_lt_any hy
      unfold World.cell? at hy ⊢; rw [hh _ hb]; exact hy
    split at h
    · rename_i hu; obtain ⟨n, rfl, rfl⟩ := DataW.trod_bool hu hx; simp [DataW.trod, hu]
    · rename_i k hu; obtain ⟨n, rfl, rfl, hw⟩ := DataW.trod_int hu hx; simp [DataW.trod, hu, hw]
    · rename_i hu; obtain ⟨n, rfl, rfl, hw⟩ := DataW.trod_string hu hx; simp [DataW.trod, hu, hw]
    · rename_i e hu
      split at h
      · rename_i l' hl
        split at h
        · rename_i tg htg
          split at h
          · rename_i hq
            obtain ⟨q1, q2⟩ := hq
            rcases DataW.trod_slice hu hx with ⟨rfl, rfl⟩ | ⟨a, len, cap, elems, rest, n, hf, rfl, rfl, hb, hlc, hcm, hel, he, hr, _⟩
            · simp [DataW.trod, hu]
            · have helem : ∀ (o : Nat) (y : DataW H × List MemPlace), (w.cells? 0 (a.add o) (P.cellsOf e)).bind (DataW.trod enc P w 0 (fun _ => true) hd fuel e) = some y →
                  a.block < w.heap.size ∧ (w'.cells? 0 (a.add o) (P.cellsOf e)).bind (DataW.trod enc P w' 0 sp hd fuel e) = some y := by
                intro o y hy
                obtain ⟨cs', hcs, htr⟩ := Option.bind_eq_some_iff.1 hy
                have hblk : a.block < w.heap.size := by
                  obtain ⟨g1, g2⟩ := cells_get hcs
                  have g3 := g2 0 (by omega)
                  rw [List.getElem?_eq_getElem (by omega)] at g3
                  have := cell?_lt_any g3
                  have e1 : ((a.add o).add 0).block = a.block := by unfold Addr.add; by_cases ho : o = 0 <;> simp [ho]
                  rwa [e1] at this
                refine ⟨hblk, ?_⟩
                have hcs' : w'.cells? 0 (a.add o) (P.cellsOf e) = some cs' := by
                  unfold World.cells? at hcs ⊢
                  split at hcs
                  · rename_i hb; rw [if_pos hb]; exact mapM_carry hcs fun i _ y hy => hcell _ y hy
                  · cases hcs
                rw [hcs']
                exact trod_kept hh hsp fuel d e cs' l' y hl htr
              simp only [DataW.trod, hu] at hx ⊢
              split at hx
              · rename_i hc
                rw [if_pos hc]
                obtain ⟨els, m1, m2⟩ := Option.bind_eq_some_iff.1 hx
                obtain ⟨rs, m3, m4⟩ := Option.map_eq_some_iff.1 m2
                rw [if_pos trivial] at m3
                rw [mapM_carry m1 fun i _ y hy => (helem _ y hy).2]
                simp only [Option.bind_some]
                have hr' : (if sp a.block = true then (List.range (cap - len)).mapM fun j => (w'.cells? 0 (a.add ((len + j) * P.cellsOf e)) (P.cellsOf e)).bind (DataW.trod enc P w' 0 sp hd fuel e) else some []) = some rs := by
                  by_cases h0 : cap - len = 0
                  · rw [h0] at m3 ⊢
                    simp at m3; subst m3
                    split <;> simp
                  · have hb : a.block < w.heap.size := by
                      have hrg : List.range (cap - len) = 0 :: (List.range (cap - len - 1)).map (· + 1) := by
                        rw [show cap - len = (cap - len - 1) + 1 by omega, List.range_succ_eq_map]; simp
                      rw [hrg] at m3
                      obtain ⟨y, ys, k1, _, _⟩ := mapM_some_cons m3
                      exact (helem _ y k1).1
                    rw [if_pos (hsp _ hb)]
                    exact mapM_carry m3 fun i _ y hy => (helem _ y hy).2
                rw [hr', ← m4]; rfl
              · cases hx
          · cases h
        · cases h
      · cases h
    · rename_i fs hu
      split at h
      · rename_i l' hl
        simp only [DataW.trod, hu] at hx ⊢
        split at hx
        · rename_i hc
          rw [if_pos hc]
          obtain ⟨xs, m1, m2⟩ := Option.map_eq_some_iff.1 hx
          have hfs : ∀ (fs : List Field) (o : Nat) (l : List LK), lkFs (lkT P d) P fs o = some l → ∀ f ∈ fs, ∃ lf, lkT P d f.type = some lf := by
            intro fs
            induction fs with
            | nil => intro o l _ f hf; simp at hf
            | cons f r ih =>
              intro o l hl g hg
              simp only [lkFs] at hl
              split at hl
              · rename_i a b ha hb
                rcases List.mem_cons.1 hg with rfl | hg
                · exact ⟨_, ha⟩
                · exact ih _ _ hb g hg
              · cases hl
          rw [mapM_carry m1 fun f hf y hy => by
            obtain ⟨lf, hlf⟩ := hfs _ _ _ hl f hf
            exact trod_kept hh hsp fuel d f.type _ lf y hlf hy]
          rw [← m2]; rfl
        · cases hx
      · cases h
    · rename_i n e hu
      split at h
      · rename_i l' hl
        simp only [DataW.trod, hu] at hx ⊢
        split at hx
        · rename_i hc
          rw [if_pos hc]
          obtain ⟨xs, m1, m2⟩ := Option.map_eq_some_iff.1 hx
          rw [mapM_carry m1 fun i _ y hy => trod_kept hh hsp fuel d e _ l' y hl hy]
          rw [← m2]; rfl
        · cases hx
      · cases h
    · cases h

theorem trodAll_kept (hh : ∀ b, b < w.heap.size → w'.heap[b]? = w.heap[b]?) (hsp : ∀ b, b < w.heap.size → sp b = true) {d : Nat} :
    ∀ {ts : List TypeId} {sh : List (Bool × List LK)} {vs : List Value} {ds : List (DataW H)} {ps : List MemPlace}, argLay P d ts = some sh →
      DataW.TrodAll enc P w 0 (fun _ => true) hd ts vs ds ps → DataW.TrodAll enc P w' 0 sp hd ts vs ds ps
  | [], sh, vs, ds, ps, _, h => by
    obtain ⟨rfl, rfl, rfl⟩ := trodAll_nil h; rfl
  | t :: ts, sh, vs, ds, ps, hs, h => by
    obtain ⟨v, vs', d', ds', p, q, rfl, rfl, rfl, ⟨fuel, h1⟩, h2⟩ := trodAll_cons h
    simp only [argLay] at hs
    split at hs
    rotate_left
    · cases hs
    rename_i l r hl hr
    exact ⟨p, q, ⟨fuel, trod_kept hh hsp fuel d t _ l _ hl h1⟩, trodAll_kept hh hsp hr h2, rfl⟩
end

theorem trodAll_len {H : Type} {enc : TypeId × Value → H} {P : Program} {w : World} {b : Nat} {sp : Nat → Bool} {hd : Bool} : ∀ {ts : List TypeId} {vs : List Value} {ds : List (DataW H)} {ps : List MemPlace},
    DataW.TrodAll enc P w b sp hd ts vs ds ps → ds.length = ts.length
  | [], vs, ds, ps, h => by obtain ⟨rfl, rfl, rfl⟩ := trodAll_nil h; rfl
  | t :: ts, vs, ds, ps, h => by
    obtain ⟨v, vs', d', ds', p, q, rfl, rfl, rfl, _, h2⟩ := trodAll_cons h
    simp [trodAll_len h2]

/-- THE BRIDGE: a law whose contract the engine knows, in the model's calculus, with all that its row asks. -/
theorem law_of_fun {H : Type} {enc : TypeId × Value → H} {P : Program} {T : List (Nat × List SV)} {f : FuncId} {fn : Func} {s : ChangeSpec} {apart fresh handsOn : Bool} {W : World} {base : Nat} {args : Array Value} {ds gs : List (DataW H)} {before : List MemPlace}
    {d : Nat} {sh : List (Bool × List LK)} {tb : TypeId}
    (hsh : argLay P d fn.params.toList = some sh) (hvs : s.vars = []) (hres : fn.resultTypes = #[tb]) (htb : P.underlying tb = some .bool)
    (hspec : ∀ ds : List (DataW H), ds.length = fn.params.toList.length → (s.fn H ds).results = [.lit (.bool true)] ∧ (s.fn H ds).args = ds ∧ (s.fn H ds).vars = [])
    (F : ∀ svs m n, Opns sh 0 svs m n → Fun P T f svs m n (.bool true) [] n)
    (hT : TabOk T W) (h0 : 0 < W.heap.size)
    (hval : ∀ (j : Nat) t v, fn.params[j]? = some t → args[j]? = some v → Value.okWide P W .any base t v)
    (hW : DataW.Whole enc P fn.params.toList s.vars apart W args.toList ds gs before) :
    Calls P f args W fun e W' => ∃ v, e = .returned v ∧ s.post enc P fn apart fresh handsOn false W args v W' := by
  have hW' := hW
  obtain ⟨p, q, hA, hV, rfl, hfz, hnd⟩ := hW
  rw [hvs] at hV
  have hgs : gs = [] ∧ q = [] := by
    cases gs with
    | nil => exact ⟨rfl, hV⟩
    | cons g gs => simp [DataW.TrodVars] at hV
  obtain ⟨rfl, rfl⟩ := hgs
  obtain ⟨ρ, svs, m, n, _, _, hfr, hop, hvl, hvw⟩ := opns_of (enc := enc) h0 (d := d) (b := base) noEnv 0 hsh (fun j t v ht hv => hval j t v (by simpa using ht) (by simpa using hv)) hA (fun i _ => rfl)
  have hnv : ∀ i B, (i, B) ∈ m → ¬ B.own := fun i B hi ⟨e, he⟩ => by
    have := (hvw i B hi).1; rw [he] at this; cases this
  have R : MemOk (ctxOf P T ρ m n W) ρ m n W := by
    refine ⟨fun i B hi => (hvw i B hi).2.2.2, fun i B j B' L L' b hi _ _ ho => absurd ho (hnv i B hi), hfr, fun i B L b hi ho => absurd ho (hnv i B hi), Nat.le_refl _, fun _ _ _ => rfl, fun _ _ => rfl, rfl, rfl⟩
  have X : CtxOk (ctxOf P T ρ m n W) := ⟨hT, fun g cs _ ho => by obtain ⟨i, B, L, h, ho, _⟩ := ho; exact hnv i B h ho⟩
  have := (F svs m n hop).run ρ W args.toList R X hvl
  rw [Array.toArray_toList] at this
  refine this.mono ?_
  rintro e W' ⟨x, ρ', rfl, _, h2, h3⟩
  have hx : x = .bool true := by simpa only [SV.is] using h2
  subst hx
  have hh : ∀ b, b < W.heap.size → W'.heap[b]? = W.heap[b]? := fun b hb => h3.frame b hb (fun ho => by obtain ⟨i, B, L, h, ho, _⟩ := ho; exact hnv i B h ho)
  have hlen : ds.length = fn.params.toList.length := trodAll_len hA
  have hsp := hspec (ds ++ []) (by simpa using hlen)
  refine ⟨_, rfl, ds, [], p ++ [], [], p, [], hW', ?_, ?_, ?_, ?_, fun h => by cases h⟩
  · rw [hsp.1, hres]
    exact ⟨[], [], ⟨1, by simp [DataW.trod, htb, Value.cells]⟩, rfl, rfl⟩
  · rw [hsp.2.1, List.append_nil]
    exact trodAll_kept hh (fun b hb => by simpa using hb) hsh hA
  · rw [hsp.2.2, hvs]; rfl
  · exact World.keptBut_mono (fun p hp => hp.elim) (keptBut_of_heap h3.side hh)
end Go.Sx
