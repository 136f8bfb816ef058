/- The proof, part Qc: the texts EngV, EngW, EngX, SfA, SfB, EngXs, EngXb. -/
import Derived.Test.YtkfbkooobfepeaaDoorQb
import Derived.Laws.BitsLemmas
import Derived.Test.YtkfbkooobfepeaaDoorChecked
/- The engine, part V: the evaluator: a stack of code, its steps in the form that simp can carry out. -/
namespace Go.Sx
open Go
set_option linter.unusedSimpArgs false
set_option linter.unusedVariables false

def lookT : List (Nat × List SV) → Nat → Option (List SV)
  | [], _ => none
  | (g, cs) :: r, h => if g = h then some cs else lookT r h
theorem lookT_mem : ∀ {T : List (Nat × List SV)} {g : Nat} {cs : List SV}, lookT T g = some cs → (g, cs) ∈ T
  | (g', cs') :: r, g, cs, h => by
    unfold lookT at h
    split at h
    · rename_i e; subst e; cases h; exact List.mem_cons_self
    · exact List.mem_cons_of_mem _ (lookT_mem h)

def fillE (fr : Fr) : List SV → List (Nat × Nat × Opd) → (List SV → Prop) → Prop
  | cs, [], F => F cs
  | cs, (off, size, x) :: r, F => match (x.ev fr).cells? with
    | some l => l.length = size ∧ off + size ≤ cs.length ∧ fillE fr (splice cs off l) r F
    | none => False
theorem fillS_of {fr : Fr} : ∀ {ps : List (Nat × Nat × Opd)} {cs : List SV} {F : List SV → Prop}, fillE fr cs ps F → fillS fr cs ps F
  | [], _, _, h => h
  | (off, size, x) :: r, cs, F, h => by
    unfold fillE at h
    unfold fillS
    split at h
    · rename_i l hl; exact ⟨l, hl, h.1, h.2.1, fillS_of h.2.2⟩
    · exact h.elim

def srcSlE (m : Mem) (s : Nat) (v : SV) (F : Nat → List SV → Prop) : Prop :=
  match v with
  | .slc i o s' len _ => match rd m i with
    | some B => s' = s ∧ o + len * s ≤ B.cells.length ∧ F len ((B.cells.drop o).take (len * s))
    | none => False
  | .val (.slice none 0 0) => F 0 []
  | .val (.slice (some _) 0 _) => F 0 []
  | _ => False
def srcOfE (m : Mem) (s : Nat) (v : SV) (F : Nat → List SV → Prop) : Prop :=
  match v with
  | .str t => s = 1 ∧ F t.length (t.map SV.byte)
  | v => srcSlE m s v F
theorem srcSl_of {m : Mem} {s : Nat} {v : SV} {F : Nat → List SV → Prop} (h : srcSlE m s v F) : srcSl m s v F := by
  unfold srcSlE at h
  unfold srcSl
  split at h
  · split at h
    · rename_i B hB; exact ⟨h.1, B, hB, h.2.1, h.2.2⟩
    · exact h.elim
  · exact h
  · exact h
  · exact h.elim
theorem srcOf_of {m : Mem} {s : Nat} {v : SV} {F : Nat → List SV → Prop} (h : srcOfE m s v F) : srcOf m s v F := by
  unfold srcOfE at h
  unfold srcOf
  split at h
  · exact h
  · rename_i hne
    split
    · exact (hne _ rfl).elim
    · exact srcSl_of h

def evO (T : List (Nat × List SV)) (call : CallT) (fr : Fr) (m : Mem) (n : Nat) (K : Kt) : SOp → Prop
  | .box e x => match (x.ev fr).cells? with
    | some l => K (.ptr n 0) ((n, ⟨.own e, l⟩) :: m) (n + 1)
    | none => False
  | .build z parts => fillE fr z parts fun cs => K (.agg cs) m n
  | .bslice e s k z parts => fillE fr z parts fun cs => K (.slc n 0 s k none) ((n, ⟨.own e, cs⟩) :: m) (n + 1)
  | .load agg x =>
    match x.ev fr with
    | .ptr i o => match rd m i with
      | some B => match agg with
        | none => match B.cells[o]? with
          | some v => K v m n
          | none => False
        | some k => o + k ≤ B.cells.length ∧ K (.agg ((B.cells.drop o).take k)) m n
      | none => False
    | .gp g o => match lookT T g with
      | some cs => match agg with
        | none => match cs[o]? with
          | some v => K v m n
          | none => False
        | some k => o + k ≤ cs.length ∧ K (.agg ((cs.drop o).take k)) m n
      | none => False
    | _ => False
  | .store k a x =>
    match a.ev fr with
    | .ptr i o => match rd m i with
      | some ⟨.own e, cells⟩ => match (x.ev fr).cells? with
        | some l => l.length = k ∧ o + k ≤ cells.length ∧ K .any (upd m i ⟨.own e, splice cells o l⟩) n
        | none => False
      | _ => False
    | _ => False
  | .idxS x i s =>
    match i.ev fr with
    | .int _ ix => match x.ev fr with
      | .slc b o s' len _ => match rd m b with
        | some B => s' = s ∧ 0 ≤ ix ∧ ix < len ∧ o + ix.toNat * s < B.cells.length ∧ K (.ptr b (o + ix.toNat * s)) m n
        | none => False
      | _ => False
    | _ => False
  | .idxV x i len s agg =>
    match i.ev fr with
    | .int _ ix => match x.ev fr with
      | .agg l => 0 ≤ ix ∧ ix < len ∧ match agg with
        | true => K (.agg ((l.drop (ix.toNat * s)).take s)) m n
        | false => match l[ix.toNat * s]? with
          | some v => K v m n
          | none => False
      | _ => False
    | _ => False
  | .idxT x i =>
    match i.ev fr with
    | .int _ ix => match x.ev fr with
      | .str t => 0 ≤ ix ∧ match t[ix.toNat]? with
        | some c => K (SV.byte c) m n
        | none => False
      | _ => False
    | _ => False
  | .fieldV x off agg =>
    match x.ev fr with
    | .agg l => match agg with
      | some k => K (.agg ((l.drop off).take k)) m n
      | none => match l[off]? with
        | some v => K v m n
        | none => False
    | _ => False
  | .eqv neg pat x y =>
    match x.ev fr, y.ev fr with
    | .agg l, .agg l' => match eqPat pat l l' with
      | some b => K (.bool (if neg then !b else b)) m n
      | none => False
    | _, _ => False
  | .isNil neg x =>
    match x.ev fr with
    | .val (.slice none 0 0) => K (.bool (!neg)) m n
    | .val (.slice (some _) _ _) => K (.bool neg) m n
    | .slc b o _ _ _ => match rd m b with
      | some B => o < B.cells.length ∧ K (.bool neg) m n
      | none => False
    | _ => False
  | .b2s x => srcSlE m 1 (x.ev fr) fun _ l => l.all isU8 = true ∧ K (.str (l.map byteOf)) m n
  | .slcS s x lo hi =>
    match x.ev fr with
    | .slc b o s' len cap =>
      s' = s ∧ (match cap with
        | none => (match rd m b with
          | some B => o + len * s ≤ B.cells.length
          | none => False)
        | some c => len ≤ c) ∧
      onOpt fr lo 0 fun l => onOpt fr hi len fun h => 0 ≤ l ∧ l ≤ h ∧ h ≤ len ∧
        K (.slc b (o + l.toNat * s) s (h.toNat - l.toNat) (cap.map (· - l.toNat))) m n
    | .val (.slice none 0 0) => onOpt fr lo 0 fun l => onOpt fr hi 0 fun h => l = 0 ∧ h = 0 ∧ K (.val (.slice none 0 0)) m n
    | _ => False
  | .arrAt k x =>
    match x.ev fr with
    | .slc b o _ len _ => match rd m b with
      | some B => 0 < k ∧ k ≤ len ∧ o < B.cells.length ∧ K (.ptr b o) m n
      | none => False
    | _ => False
  | .ext x i =>
    match x.ev fr with
    | .tup l => match l[i]? with
      | some v => K v m n
      | none => False
    | _ => False
  | .app e s bytes x y =>
    srcOfE m s (y.ev fr) fun k l =>
    match x.ev fr with
    | .slc i o s' len cap => match rd m i with
      | some ⟨.own e', cells⟩ => s' = s ∧ o = 0 ∧ cap = none ∧ (len + k) * bytes ≤ 2 ^ 40 ∧ bytes ≤ 2 ^ 20 ∧ e' = e ∧ len * s ≤ cells.length ∧
        K (.slc n 0 s (len + k) none) ((n, ⟨.own e, cells.take (len * s) ++ l⟩) :: rm m i) (n + 1)
      | _ => False
    | .val (.slice none 0 0) => k * bytes ≤ 2 ^ 40 ∧ bytes ≤ 2 ^ 20 ∧ K (.slc n 0 s k none) ((n, ⟨.own e, l⟩) :: m) (n + 1)
    | _ => False
  | .copy s x y =>
    srcOfE m s (y.ev fr) fun k l =>
    match x.ev fr with
    | .slc i o s' len _ => match rd m i with
      | some ⟨.own e, cells⟩ => s' = s ∧ o + len * s ≤ cells.length ∧
        K (.int .i64 (min k len : Nat)) (upd m i ⟨.own e, splice cells o (l.take (min k len * s))⟩) n
      | _ => False
    | _ => False
  | .mput a x key =>
    match x.ev fr with
    | .mp i => match keysOf m i with
      | some (a', ks) => match kvOf a (key.ev fr) with
        | some kv => a' = a ∧ K .any (upd m i ⟨.map a (insK ks kv), []⟩) n
        | none => False
      | none => False
    | _ => False
  | .mlen x =>
    match x.ev fr with
    | .mp i => match keysOf m i with
      | some (_, ks) => K (.int .i64 ks.length) m n
      | none => False
    | _ => False
  | .mk8 x =>
    match x.ev fr with
    | .slc i o s len cap => match rd m i with
      | some ⟨.own e, cells⟩ => 0 < len ∧ 0 < cells.length ∧ K (.slc i o s len cap) (upd m i ⟨.own e, cells⟩) n
      | _ => False
    | _ => False
  | op => exO T call fr m n K op

theorem srcOf_mono {m : Mem} {s : Nat} {v : SV} {F G : Nat → List SV → Prop} (h : srcOf m s v F) (hF : ∀ k l, F k l → G k l) : srcOf m s v G := by
  unfold srcOf at h ⊢
  split at h
  · exact ⟨h.1, hF _ _ h.2⟩
  · unfold srcSl at h ⊢
    split at h
    · obtain ⟨h1, B, h2, h3, h4⟩ := h; exact ⟨h1, B, h2, h3, hF _ _ h4⟩
    · exact hF _ _ h
    · exact hF _ _ h
    · exact h.elim

theorem exO_of_ev {T : List (Nat × List SV)} {call : CallT} {fr : Fr} {m : Mem} {n : Nat} {K : Kt} (op : SOp) (h : evO T call fr m n K op) : exO T call fr m n K op := by
  cases op with
  | box e x =>
    simp only [evO] at h; simp only [exO]
    split at h
    · rename_i l hl; exact ⟨l, hl, h⟩
    · exact h.elim
  | build z ps => simp only [evO] at h; simp only [exO]; exact fillS_of h
  | bslice e s k z ps => simp only [evO] at h; simp only [exO]; exact fillS_of h
  | load agg x =>
    simp only [evO] at h; simp only [exO]
    generalize x.ev fr = xv at h ⊢
    split at h
    · split at h
      · rename_i B hB
        refine ⟨B, hB, ?_⟩
        cases agg with
        | none => simp only at h ⊢; split at h
                  · rename_i v hv; exact ⟨v, hv, h⟩
                  · exact h.elim
        | some k => exact h
      · exact h.elim
    · split at h
      · rename_i cs hcs
        refine ⟨cs, lookT_mem hcs, ?_⟩
        cases agg with
        | none => simp only at h ⊢; split at h
                  · rename_i v hv; exact ⟨v, hv, h⟩
                  · exact h.elim
        | some k => exact h
      · exact h.elim
    · exact h.elim
  | store k a x =>
    simp only [evO] at h; simp only [exO]
    generalize a.ev fr = av at h ⊢
    split at h
    · split at h
      · rename_i e cells hB
        split at h
        · rename_i l hl; exact ⟨_, e, l, hB, rfl, hl, h⟩
        · exact h.elim
      · exact h.elim
    · exact h.elim
  | idxS x i s =>
    simp only [evO] at h; simp only [exO, onInt]
    generalize i.ev fr = iv at h ⊢
    generalize x.ev fr = xv at h ⊢
    split at h
    · split at h
      · split at h
        · rename_i B hB; exact ⟨h.1, h.2.1, h.2.2.1, B, hB, h.2.2.2⟩
        · exact h.elim
      · exact h.elim
    · exact h.elim
  | idxV x i len s agg =>
    simp only [evO] at h; simp only [exO, onInt]
    generalize i.ev fr = iv at h ⊢
    generalize x.ev fr = xv at h ⊢
    split at h
    · split at h
      · refine ⟨h.1, h.2.1, ?_⟩
        cases agg with
        | true => exact h.2.2
        | false =>
          have h := h.2.2
          simp only at h ⊢; split at h
          · rename_i v hv; exact ⟨v, hv, h⟩
          · exact h.elim
      · exact h.elim
    · exact h.elim
  | idxT x i =>
    simp only [evO] at h; simp only [exO, onInt]
    generalize i.ev fr = iv at h ⊢
    generalize x.ev fr = xv at h ⊢
    split at h
    · split at h
      · refine ⟨h.1, ?_⟩
        have h := h.2
        split at h
        · rename_i c hc; exact ⟨c, hc, h⟩
        · exact h.elim
      · exact h.elim
    · exact h.elim
  | fieldV x off agg =>
    simp only [evO] at h; simp only [exO]
    generalize x.ev fr = xv at h ⊢
    split at h
    · cases agg with
      | some k => exact h
      | none =>
        simp only at h ⊢; split at h
        · rename_i v hv; exact ⟨v, hv, h⟩
        · exact h.elim
    · exact h.elim
  | eqv neg pat x y =>
    simp only [evO] at h; simp only [exO]
    generalize x.ev fr = xv at h ⊢
    generalize y.ev fr = yv at h ⊢
    split at h
    · split at h
      · rename_i b hb; exact ⟨b, hb, h⟩
      · exact h.elim
    · exact h.elim
  | isNil neg x =>
    simp only [evO] at h; simp only [exO]
    generalize x.ev fr = xv at h ⊢
    split at h
    · exact h
    · exact h
    · split at h
      · rename_i B hB; exact ⟨⟨B, hB, h.1⟩, h.2⟩
      · exact h.elim
    · exact h.elim
  | b2s x => simp only [evO] at h; simp only [exO]; exact srcSl_of h
  | slcS s x lo hi =>
    simp only [evO] at h; simp only [exO]
    generalize x.ev fr = xv at h ⊢
    split at h
    · refine ⟨h.1, ?_, h.2.2⟩
      have h := h.2.1
      split at h
      · split at h
        · rename_i B hB; exact ⟨B, hB, h⟩
        · exact h.elim
      · exact h
    · exact h
    · exact h.elim
  | mput q x y =>
    simp only [evO] at h; simp only [exO]
    generalize x.ev fr = xv at h ⊢
    split at h
    · split at h
      · rename_i a' ks hks
        split at h
        · rename_i kv hkv
          obtain ⟨rfl, h⟩ := h
          exact ⟨ks, kv, hks, hkv, h⟩
        · exact h.elim
      · exact h.elim
    · exact h.elim
  | mlen x =>
    simp only [evO] at h; simp only [exO]
    generalize x.ev fr = xv at h ⊢
    split at h
    · split at h
      · rename_i a' ks hks; exact ⟨_, ks, hks, h⟩
      · exact h.elim
    · exact h.elim
  | mk8 x =>
    simp only [evO] at h; simp only [exO]
    generalize x.ev fr = xv at h ⊢
    split at h
    · split at h
      · rename_i e cells hB; exact ⟨h.1, _, e, hB, rfl, h.2.1, h.2.2⟩
      · exact h.elim
    · exact h.elim
  | arrAt k x =>
    simp only [evO] at h; simp only [exO]
    generalize x.ev fr = xv at h ⊢
    split at h
    · split at h
      · rename_i B hB; exact ⟨h.1, h.2.1, ⟨B, hB, h.2.2.1⟩, h.2.2.2⟩
      · exact h.elim
    · exact h.elim
  | ext x i =>
    simp only [evO] at h; simp only [exO]
    generalize x.ev fr = xv at h ⊢
    split at h
    · split at h
      · rename_i v hv; exact ⟨v, hv, h⟩
      · exact h.elim
    · exact h.elim
  | app e s bytes x y =>
    simp only [evO] at h; simp only [exO]
    generalize x.ev fr = xv at h ⊢
    refine srcOf_mono (srcOf_of h) fun k l h => ?_
    split at h
    · split at h
      · rename_i e' cells hB
        obtain ⟨h1, h2, h3, h4, h5, h6, h7, h8⟩ := h
        subst h6
        exact ⟨h1, h2, h3, h4, h5, _, hB, rfl, h7, h8⟩
      · exact h.elim
    · exact h
    · exact h.elim
  | copy s x y =>
    simp only [evO] at h; simp only [exO]
    generalize x.ev fr = xv at h ⊢
    refine srcOf_mono (srcOf_of h) fun k l h => ?_
    split at h
    · split at h
      · rename_i e cells hB; exact ⟨h.1, _, e, hB, rfl, h.2.1, h.2.2⟩
      · exact h.elim
    · exact h.elim
  | _ => exact h

/-- less is known of calls -/
theorem exO_call {T : List (Nat × List SV)} {c1 c2 : CallT} (hc : ∀ f a m n K, c1 f a m n K → c2 f a m n K) {fr : Fr} {m : Mem} {n : Nat} {K : Kt} (op : SOp)
    (h : exO T c1 fr m n K op) : exO T c2 fr m n K op := by
  cases op with
  | call f args => simp only [exO] at h ⊢; exact hc _ _ _ _ _ h
  | callp f args => simp only [exO] at h ⊢; exact ⟨h.1, hc _ _ _ _ _ h.2⟩
  | callv x args =>
    simp only [exO] at h ⊢
    split at h
    · exact hc _ _ _ _ _ h
    · exact h.elim
  | _ => exact h


def evR (T : List (Nat × List SV)) (call : CallT) : List Opr → Fr → Mem → Nat → (Fr → Mem → Nat → Prop) → Prop
  | [], fr, m, n, K => K fr m n
  | o :: r, fr, m, n, K =>
    match o.guard with
    | none => evO T call fr m n (fun v m' n' => evR T call r (dels (putO fr o.dst v) o.kill) m' n' K) o.op
    | some (g, b) =>
      match get fr g with
      | .bool t => (t = b → evO T call fr m n (fun v m' n' => evR T call r (dels (putO fr o.dst v) o.kill) m' n' K) o.op) ∧
          (t = !b → evR T call r (dels (putO fr o.dst (.val undef)) o.kill) m n K)
      | .val (.tuple _) => evR T call r (dels (putO fr o.dst (.val undef)) o.kill) m n K
      | _ => False

def evA (T : List (Nat × List SV)) (call : CallT) (fr0 : Fr) (m0 : Mem) : List Opr → List Dn → Nat → (List Dn → Nat → Prop) → Prop
  | [], done, n, K => K done n
  | o :: r, done, n, K =>
    match o.guard with
    | none => evO T call (frD (pickD done o.pre) (dels fr0 o.hide)) (views (memD (pickD done o.pre) m0)) n (fun v m' n' => n ≤ n' ∧ evA T call fr0 m0 r (done ++ [⟨o.dst, v, newer n m', n, n'⟩]) n' K) o.op
    | some (g, b) =>
      match get (frD (pickD done o.pre) (dels fr0 o.hide)) g with
      | .bool t => (t = b → evO T call (frD (pickD done o.pre) (dels fr0 o.hide)) (views (memD (pickD done o.pre) m0)) n (fun v m' n' => n ≤ n' ∧ evA T call fr0 m0 r (done ++ [⟨o.dst, v, newer n m', n, n'⟩]) n' K) o.op) ∧
          (t = !b → evA T call fr0 m0 r (done ++ [⟨o.dst, .val undef, [], n, n⟩]) n K)
      | .val (.tuple _) => evA T call fr0 m0 r (done ++ [⟨o.dst, .val undef, [], n, n⟩]) n K
      | _ => False

def evW (T : List (Nat × List SV)) (call : CallT) (fr0 : Fr) (m0 : Mem) : List Opr → List DW → Nat → (List DW → Nat → Prop) → Prop
  | [], done, n, K => K done n
  | o :: r, done, n, K =>
    match o.op with
    | .store k a x => o.guard = none ∧ match a.ev (frD (pickD (baseD done) o.pre) (dels fr0 o.hide)) with
      | .ptr b off => match rd (memD (pickD (baseD done) o.pre) m0) b with
        | some ⟨.own e, cells⟩ => match (x.ev (frD (pickD (baseD done) o.pre) (dels fr0 o.hide))).cells? with
          | some l => l.length = k ∧ off + k ≤ cells.length ∧ (stBlk done).contains b = false ∧ untouched b o.pre 0 done ∧
              evW T call fr0 m0 r (done ++ [⟨⟨o.dst, .any, [], n, n⟩, some (b, ⟨.own e, splice cells off l⟩), none⟩]) n K
          | none => False
        | _ => False
      | _ => False
    | .mput a x key => o.guard = none ∧ match x.ev (frD (pickD (baseD done) o.pre) (dels fr0 o.hide)) with
      | .mp b => match keysOf (memD (pickD (baseD done) o.pre) m0) b with
        | some (a', ks) => match kvOf a (key.ev (frD (pickD (baseD done) o.pre) (dels fr0 o.hide))) with
          | some kv => a' = a ∧ (stBlk done).contains b = false ∧ untouched b o.pre 0 done ∧
              evW T call fr0 m0 r (done ++ [⟨⟨o.dst, .any, [], n, n⟩, some (b, ⟨.map a (insK ks kv), []⟩), none⟩]) n K
          | none => False
        | none => False
      | _ => False
    | op => clear (touch (frD (pickD (baseD done) o.pre) (dels fr0 o.hide)) op) (stBlk done) ∧ match o.guard with
      | none => evO T call (frD (pickD (baseD done) o.pre) (dels fr0 o.hide)) (views (memD (pickD (baseD done) o.pre) m0)) n
          (fun v m' n' => n ≤ n' ∧ evW T call fr0 m0 r (done ++ [⟨⟨o.dst, v, newer n m', n, n'⟩, none, touch (frD (pickD (baseD done) o.pre) (dels fr0 o.hide)) op⟩]) n' K) op
      | some (g, b) =>
        match get (frD (pickD (baseD done) o.pre) (dels fr0 o.hide)) g with
        | .bool t => (t = b → evO T call (frD (pickD (baseD done) o.pre) (dels fr0 o.hide)) (views (memD (pickD (baseD done) o.pre) m0)) n
            (fun v m' n' => n ≤ n' ∧ evW T call fr0 m0 r (done ++ [⟨⟨o.dst, v, newer n m', n, n'⟩, none, touch (frD (pickD (baseD done) o.pre) (dels fr0 o.hide)) op⟩]) n' K) op) ∧
            (t = !b → evW T call fr0 m0 r (done ++ [⟨⟨o.dst, .val undef, [], n, n⟩, none, some []⟩]) n K)
        | .val (.tuple _) => evW T call fr0 m0 r (done ++ [⟨⟨o.dst, .val undef, [], n, n⟩, none, some []⟩]) n K
        | _ => False

/-- a loop that is unrolled -/
def loopU (body : Fr → Mem → Nat → Post → Prop) (Q : Post) : Nat → Fr → Mem → Nat → Prop
  | 0, _, _, _ => False
  | k + 1, fr, m, n => body fr m n (seqQ (loopU body Q k) Q)

theorem loopN_ofU {T : List (Nat × List SV)} {c2 : CallT} (hp : PointC c2) {n0 : Nat} {c : SC} {body : Fr → Mem → Nat → Post → Prop} (hb : ∀ fr m n Q, body fr m n Q → exC T c2 n0 c fr m n Q) {Q : Post} :
    ∀ {k : Nat} {fr : Fr} {m : Mem} {n : Nat}, loopU body Q k fr m n → loopN n0 (exC T c2 n0 c) Q k fr m n
  | 0, _, _, _, h => h.elim
  | k + 1, fr, m, n, h => by
    unfold loopU at h
    unfold loopN
    refine .inl (exC_mono hp c _ _ _ _ _ (hb _ _ _ _ h) fun e fr m n h => ?_)
    unfold seqQ at h ⊢
    cases e with
    | normal => exact loopN_ofU hp hb h
    | exit id => exact h
    | ret => exact h

/-- code, with what is known of calls (c1) and with what is true of them (c2) -/
def evC (T : List (Nat × List SV)) (c1 c2 : CallT) (u : Option Nat) (n0 : Nat) : SC → Fr → Mem → Nat → Post → Prop
  | .skip, fr, m, n, Q => Q .normal fr m n
  | .reg ops, fr, m, n, Q => evR T c1 ops fr m n fun fr' m' n' => Q .normal fr' m' n'
  | .regD k ops, fr, m, n, Q => evA T c1 fr m (ops.take k) [] n fun done n' =>
      evR T c1 (ops.drop k) (dels (frD done.reverse fr) (kills (ops.take k))) (memD done.reverse m) n' fun fr' m' n' => Q .normal fr' m' n'
  | .regP _ ops, fr, m, n, Q => evR T c1 ops fr m n fun fr' m' n' => Q .normal fr' m' n'
  | .regW k ops, fr, m, n, Q => evW T c1 fr m (ops.take k) [] n fun done n' =>
      evR T c1 (ops.drop k) (dels (frD (baseD done).reverse fr) (kills (ops.take k))) (updsW done (memD (baseD done).reverse m)) n' fun fr' m' n' => Q .normal fr' m' n'
  | .bad, _, _, _, _ => False
  | .seq a b, fr, m, n, Q => evC T c1 c2 u n0 a fr m n (seqQ (fun fr' m' n' => evC T c1 c2 u n0 b fr' m' n' Q) Q)
  | .cond x a b, fr, m, n, Q => onBool (x.ev fr) fun t => (t = true → evC T c1 c2 u n0 a fr m n Q) ∧ (t = false → evC T c1 c2 u n0 b fr m n Q)
  | .block id c, fr, m, n, Q => evC T c1 c2 u n0 c fr m n (blkQ id Q)
  | .loop c, fr, m, n, Q => match u with
    | none => ∃ k, loopN n0 (exC T c2 n0 c) Q k fr m n
    | some k => loopU (evC T c1 c2 u n0 c) Q k fr m n
  | .exit id, fr, m, n, Q => Q (.exit id) fr m n
  | .ret, fr, m, n, Q => Q .ret fr m n

section
variable {T : List (Nat × List SV)} {c1 c2 : CallT} {u : Option Nat} (hc : ∀ f a m n K, c1 f a m n K → c2 f a m n K) (hp : PointC c2) {n0 : Nat}
include hc hp

theorem exR_of_ev : ∀ {qs : List Opr} {fr : Fr} {m : Mem} {n : Nat} {K : Fr → Mem → Nat → Prop}, evR T c1 qs fr m n K → exR T c2 qs fr m n K
  | [], fr, m, n, K, h => h
  | q :: qs, fr, m, n, K, h => by
    simp only [evR] at h
    simp only [exR]
    cases hg : q.guard with
    | none =>
      simp only [hg] at h ⊢
      exact exO_mono hp (exO_call hc _ (exO_of_ev _ h)) fun v m n h => exR_of_ev h
    | some gb =>
      obtain ⟨g, b⟩ := gb
      simp only [hg] at h ⊢
      cases hv : get fr g <;> simp only [hv] at h ⊢
      case bool t => exact ⟨fun e => exO_mono hp (exO_call hc _ (exO_of_ev _ (h.1 e))) fun v m n h => exR_of_ev h, fun e => exR_of_ev (h.2 e)⟩
      case val v =>
        cases v <;> simp only at h ⊢
        exact exR_of_ev h

theorem exA_of_ev {fr : Fr} {m : Mem} : ∀ {qs : List Opr} {done : List Dn} {n : Nat} {K : List Dn → Nat → Prop}, evA T c1 fr m qs done n K → exA T c2 fr m qs done n K
  | [], done, n, K, h => h
  | q :: qs, done, n, K, h => by
    simp only [evA] at h
    simp only [exA]
    cases hg : q.guard with
    | none =>
      simp only [hg] at h ⊢
      exact exO_mono hp (exO_call hc _ (exO_of_ev _ h)) fun v m n h => ⟨h.1, exA_of_ev h.2⟩
    | some gb =>
      obtain ⟨g, b⟩ := gb
      simp only [hg] at h ⊢
      cases hv : get (frD (pickD done q.pre) (dels fr q.hide)) g <;> simp only [hv] at h ⊢
      case bool t => exact ⟨fun e => exO_mono hp (exO_call hc _ (exO_of_ev _ (h.1 e))) fun v m n h => ⟨h.1, exA_of_ev h.2⟩, fun e => exA_of_ev (h.2 e)⟩
      case val v =>
        cases v <;> simp only at h ⊢
        exact exA_of_ev h

theorem exW_of_ev {fr : Fr} {m : Mem} : ∀ {qs : List Opr} {done : List DW} {n : Nat} {K : List DW → Nat → Prop}, evW T c1 fr m qs done n K → exW T c2 fr m qs done n K
  | [], done, n, K, h => h
  | q :: qs, done, n, K, h => by
    unfold evW at h
    unfold exW
    simp only
    split at h
    · rename_i k a x hop
      rw [hop]; simp only
      refine ⟨h.1, ?_⟩
      have h := h.2
      split at h
      · rename_i b off hab
        simp only [hab]
        split at h
        · rename_i e cells hr
          split at h
          · rename_i l hl
            exact ⟨e, cells, l, hr, hl, h.1, h.2.1, h.2.2.1, h.2.2.2.1, exW_of_ev h.2.2.2.2⟩
          · exact h.elim
        · exact h.elim
      · exact h.elim
    · rename_i a x key hop
      rw [hop]; simp only
      refine ⟨h.1, ?_⟩
      have h := h.2
      split at h
      · rename_i b hab
        simp only [hab]
        split at h
        · rename_i a' ks hks
          split at h
          · rename_i kv hkv
            obtain ⟨rfl, h1, h2, h3⟩ := h
            exact ⟨ks, kv, hks, hkv, h1, h2, exW_of_ev h3⟩
          · exact h.elim
        · exact h.elim
      · exact h.elim
    · rename_i hne hne2
      split
      · rename_i k a x hop; exact (hne _ _ _ hop).elim
      · rename_i k a x hop; exact (hne2 _ _ _ hop).elim
      refine ⟨h.1, ?_⟩
      have h := h.2
      cases hg : q.guard with
      | none =>
        simp only [hg] at h ⊢
        exact exO_mono hp (exO_call hc _ (exO_of_ev _ h)) fun v m n h => ⟨h.1, exW_of_ev h.2⟩
      | some gb =>
        obtain ⟨g, b⟩ := gb
        simp only [hg] at h ⊢
        split at h
        · rename_i t ht; simp only [ht]; exact ⟨fun e => exO_mono hp (exO_call hc _ (exO_of_ev _ (h.1 e))) fun v m n h => ⟨h.1, exW_of_ev h.2⟩, fun e => exW_of_ev (h.2 e)⟩
        · rename_i vs ht; simp only [ht]; exact exW_of_ev h
        · exact h.elim

theorem exC_of_ev : ∀ (c : SC) (fr : Fr) (m : Mem) (n : Nat) (Q : Post), evC T c1 c2 u n0 c fr m n Q → exC T c2 n0 c fr m n Q
  | .skip, _, _, _, _, h => h
  | .reg ops, _, _, _, _, h => exR_of_ev hc hp h
  | .regD k ops, _, _, _, _, h => exA_mono hp (exA_of_ev hc hp h) fun _ _ h => exR_of_ev hc hp h
  | .regP _ ops, _, _, _, _, h => exR_of_ev hc hp h
  | .regW k ops, _, _, _, _, h => exW_mono hp (exW_of_ev hc hp h) fun _ _ h => exR_of_ev hc hp h
  | .bad, _, _, _, _, h => h
  | .seq a b, _, _, _, Q, h => by
    simp only [evC] at h
    simp only [exC]
    refine exC_mono hp a _ _ _ _ _ (exC_of_ev a _ _ _ _ h) fun e fr m n h => ?_
    unfold seqQ at h ⊢
    cases e with
    | normal => exact exC_of_ev b _ _ _ _ h
    | exit id => exact h
    | ret => exact h
  | .cond x a b, _, _, _, Q, h => by
    simp only [evC] at h
    simp only [exC]
    exact onBool_mono h fun t h => ⟨fun e => exC_of_ev a _ _ _ _ (h.1 e), fun e => exC_of_ev b _ _ _ _ (h.2 e)⟩
  | .block id c, _, _, _, Q, h => by
    simp only [evC] at h
    simp only [exC]
    exact exC_of_ev c _ _ _ _ h
  | .loop c, _, _, _, Q, h => by
    have rec0 := exC_of_ev c
    simp only [evC] at h
    simp only [exC]
    split at h
    · exact h
    · rename_i k
      exact ⟨k, loopN_ofU hp rec0 h⟩
  | .exit id, _, _, _, _, h => h
  | .ret, _, _, _, _, h => h
end

/-- the stack -/
inductive It where
  | o (l : List Opr)
  | c (c : SC)
  | b (id : Nat)
  | u (k : Nat) (c : SC)

/-- what is left of an open region when it is done -/
def denA (T : List (Nat × List SV)) (c1 : CallT) (k : Nat) (ops : List Opr) (fr : Fr) (m : Mem) (Q : Post) : List Dn → Nat → Prop := fun done n' =>
  evR T c1 (ops.drop k) (dels (frD done.reverse fr) (kills (ops.take k))) (memD done.reverse m) n' fun fr' m' n' => Q .normal fr' m' n'

/-- likewise, where blocks are written -/
def denW (T : List (Nat × List SV)) (c1 : CallT) (k : Nat) (ops : List Opr) (fr : Fr) (m : Mem) (Q : Post) : List DW → Nat → Prop := fun done n' =>
  evR T c1 (ops.drop k) (dels (frD (baseD done).reverse fr) (kills (ops.take k))) (updsW done (memD (baseD done).reverse m)) n' fun fr' m' n' => Q .normal fr' m' n'

def den (T : List (Nat × List SV)) (c1 c2 : CallT) (u : Option Nat) (n0 : Nat) (Q : Post) : List It → Post
  | [] => Q
  | .o l :: st => seqQ (fun fr m n => evR T c1 l fr m n fun fr' m' n' => den T c1 c2 u n0 Q st .normal fr' m' n') (den T c1 c2 u n0 Q st)
  | .c c :: st => seqQ (fun fr m n => evC T c1 c2 u n0 c fr m n (den T c1 c2 u n0 Q st)) (den T c1 c2 u n0 Q st)
  | .b id :: st => blkQ id (den T c1 c2 u n0 Q st)
  | .u k c :: st => seqQ (loopU (evC T c1 c2 u n0 c) (den T c1 c2 u n0 Q st) k) (den T c1 c2 u n0 Q st)

/-- the one or the other -/
def gd (t b : Bool) (X Y : Prop) : Prop := (t = b → X) ∧ (t = !b → Y)
theorem gd_tt {X Y : Prop} : gd true true X Y = X := by simp [gd]
theorem gd_ff {X Y : Prop} : gd false false X Y = X := by simp [gd]
theorem gd_tf {X Y : Prop} : gd true false X Y = Y := by simp [gd]
theorem gd_ft {X Y : Prop} : gd false true X Y = Y := by simp [gd]
theorem gd_any {t b : Bool} {X Y : Prop} : gd t b X Y = ((t = b → X) ∧ (t = !b → Y)) := rfl

/-- what is left behind an operation -/
def kont (T : List (Nat × List SV)) (c1 c2 : CallT) (u : Option Nat) (n0 : Nat) (Q : Post) (l : List Opr) (st : List It) (fr : Fr) (d : Option Nat) (ks : List Nat) : Kt := fun v m' n' =>
  den T c1 c2 u n0 Q (.o l :: st) .normal (dels (putO fr d v) ks) m' n'

section
variable {T : List (Nat × List SV)} {c1 c2 : CallT} {u : Option Nat} {n0 : Nat} {Q : Post} {st : List It} {fr : Fr} {m : Mem} {n : Nat} {j k : Nat} {l : List Opr} {a b c : SC} {x : Opd} {e : SX}

theorem den_nil : den T c1 c2 u n0 Q [] e fr m n = Q e fr m n := (rfl)
theorem den_o0 : den T c1 c2 u n0 Q (.o [] :: st) .normal fr m n = den T c1 c2 u n0 Q st .normal fr m n := (rfl)
theorem den_o1 {d : Option Nat} {op : SOp} {ks p h : List Nat} : den T c1 c2 u n0 Q (.o (⟨d, op, none, ks, p, h⟩ :: l) :: st) .normal fr m n =
    evO T c1 fr m n (kont T c1 c2 u n0 Q l st fr d ks) op := (rfl)
theorem kont_app {d : Option Nat} {ks : List Nat} {v : SV} : kont T c1 c2 u n0 Q l st fr d ks v m n = den T c1 c2 u n0 Q (.o l :: st) .normal (dels (putO fr d v) ks) m n := (rfl)
theorem den_o2 {d : Option Nat} {op : SOp} {g : Nat} {t : Bool} {ks p h : List Nat} : den T c1 c2 u n0 Q (.o (⟨d, op, some (g, t), ks, p, h⟩ :: l) :: st) .normal fr m n =
    (match get fr g with
      | .bool t' => (t' = t → evO T c1 fr m n (fun v m' n' => den T c1 c2 u n0 Q (.o l :: st) .normal (dels (putO fr d v) ks) m' n') op) ∧
          (t' = !t → den T c1 c2 u n0 Q (.o l :: st) .normal (dels (putO fr d (.val undef)) ks) m n)
      | .val (.tuple _) => den T c1 c2 u n0 Q (.o l :: st) .normal (dels (putO fr d (.val undef)) ks) m n
      | _ => False) := (rfl)
theorem den_skip : den T c1 c2 u n0 Q (.c .skip :: st) .normal fr m n = den T c1 c2 u n0 Q st .normal fr m n := (rfl)
theorem den_reg : den T c1 c2 u n0 Q (.c (.reg l) :: st) .normal fr m n = den T c1 c2 u n0 Q (.o l :: st) .normal fr m n := (rfl)
theorem den_regP : den T c1 c2 u n0 Q (.c (.regP k l) :: st) .normal fr m n = den T c1 c2 u n0 Q (.o l :: st) .normal fr m n := (rfl)
theorem den_regD : den T c1 c2 u n0 Q (.c (.regD k l) :: st) .normal fr m n = evA T c1 fr m (l.take k) [] n (denA T c1 k l fr m (den T c1 c2 u n0 Q st)) := (rfl)
theorem den_regW : den T c1 c2 u n0 Q (.c (.regW k l) :: st) .normal fr m n = evW T c1 fr m (l.take k) [] n (denW T c1 k l fr m (den T c1 c2 u n0 Q st)) := (rfl)
theorem den_W {d : List DW} : denW T c1 k l fr m (den T c1 c2 u n0 Q st) d n =
    den T c1 c2 u n0 Q (.o (l.drop k) :: st) .normal (dels (frD (baseD d).reverse fr) (kills (l.take k))) (updsW d (memD (baseD d).reverse m)) n := (rfl)
theorem den_bad : den T c1 c2 u n0 Q (.c .bad :: st) .normal fr m n = False := (rfl)
theorem den_A {d : List Dn} : denA T c1 k l fr m (den T c1 c2 u n0 Q st) d n =
    den T c1 c2 u n0 Q (.o (l.drop k) :: st) .normal (dels (frD d.reverse fr) (kills (l.take k))) (memD d.reverse m) n := (rfl)
theorem den_seq : den T c1 c2 u n0 Q (.c (.seq a b) :: st) .normal fr m n = den T c1 c2 u n0 Q (.c a :: .c b :: st) .normal fr m n := (rfl)
theorem den_cond : den T c1 c2 u n0 Q (.c (.cond x a b) :: st) .normal fr m n =
    (match x.ev fr with
      | .bool t => gd t true (den T c1 c2 u n0 Q (.c a :: st) .normal fr m n) (den T c1 c2 u n0 Q (.c b :: st) .normal fr m n)
      | _ => False) := (rfl)
theorem den_block : den T c1 c2 u n0 Q (.c (.block j c) :: st) .normal fr m n = den T c1 c2 u n0 Q (.c c :: .b j :: st) .normal fr m n := (rfl)
theorem den_loopU {k : Nat} : den T c1 c2 (some k) n0 Q (.c (.loop c) :: st) .normal fr m n = den T c1 c2 (some k) n0 Q (.u k c :: st) .normal fr m n := (rfl)
theorem den_loop : den T c1 c2 none n0 Q (.c (.loop c) :: st) .normal fr m n = ∃ k, loopN n0 (exC T c2 n0 c) (den T c1 c2 none n0 Q st) k fr m n := (rfl)
theorem den_exit : den T c1 c2 u n0 Q (.c (.exit j) :: st) .normal fr m n = den T c1 c2 u n0 Q st (.exit j) fr m n := (rfl)
theorem den_ret : den T c1 c2 u n0 Q (.c .ret :: st) .normal fr m n = den T c1 c2 u n0 Q st .ret fr m n := (rfl)
theorem den_b : den T c1 c2 u n0 Q (.b j :: st) .normal fr m n = den T c1 c2 u n0 Q st .normal fr m n := (rfl)
theorem den_xb : den T c1 c2 u n0 Q (.b j :: st) (.exit k) fr m n = if k = j then den T c1 c2 u n0 Q st .normal fr m n else den T c1 c2 u n0 Q st (.exit k) fr m n := (rfl)
theorem den_xo : den T c1 c2 u n0 Q (.o l :: st) (.exit k) fr m n = den T c1 c2 u n0 Q st (.exit k) fr m n := (rfl)
theorem den_xc : den T c1 c2 u n0 Q (.c c :: st) (.exit k) fr m n = den T c1 c2 u n0 Q st (.exit k) fr m n := (rfl)
theorem den_xu : den T c1 c2 u n0 Q (.u j c :: st) (.exit k) fr m n = den T c1 c2 u n0 Q st (.exit k) fr m n := (rfl)
theorem den_rb : den T c1 c2 u n0 Q (.b j :: st) .ret fr m n = den T c1 c2 u n0 Q st .ret fr m n := (rfl)
theorem den_ro : den T c1 c2 u n0 Q (.o l :: st) .ret fr m n = den T c1 c2 u n0 Q st .ret fr m n := (rfl)
theorem den_rc : den T c1 c2 u n0 Q (.c c :: st) .ret fr m n = den T c1 c2 u n0 Q st .ret fr m n := (rfl)
theorem den_ru : den T c1 c2 u n0 Q (.u j c :: st) .ret fr m n = den T c1 c2 u n0 Q st .ret fr m n := (rfl)
theorem den_u : den T c1 c2 u n0 Q (.u (k + 1) c :: st) .normal fr m n = den T c1 c2 u n0 Q (.c c :: .u k c :: st) .normal fr m n := (rfl)

/-- a loop that is unrolled at most k times -/
theorem den_unroll (hc : ∀ f a m n K, c1 f a m n K → c2 f a m n K) (hp : PointC c2) (k : Nat) (h : den T c1 c2 u n0 Q (.u k c :: st) .normal fr m n) :
    ∃ k, loopN n0 (exC T c2 n0 c) (den T c1 c2 u n0 Q st) k fr m n := ⟨k, loopN_ofU hp (exC_of_ev hc hp c) h⟩

/-- what a round of a loop has to show -/
def again {σ : Type} (n0 : Nat) (F : σ → Fr) (M : σ → Mem) (B : σ → Nat) (Inv : σ → Prop) (μ : σ → Nat) (s : σ) (Q : Post) : Post :=
  seqQ (fun fr' m' n' => ∃ s', Ent n0 fr' m' n' (F s') (M s') (B s') ∧ Inv s' ∧ μ s' < μ s) Q

theorem den_inv {P : Program} (hc : ∀ f a m n K, c1 f a m n K → callT P T f a m n K) {σ : Type}
    (F : σ → Fr) (M : σ → Mem) (B : σ → Nat) (Inv : σ → Prop) (μ : σ → Nat) (s : σ) (hE : Ent n0 fr m n (F s) (M s) (B s)) (hI : Inv s)
    (round : ∀ s, Inv s → den T c1 (callT P T) u n0 (again n0 F M B Inv μ s (den T c1 (callT P T) u n0 Q st)) [.c c] .normal (F s) (M s) (B s)) :
    ∃ k, loopN n0 (exC T (callT P T) n0 c) (den T c1 (callT P T) u n0 Q st) k fr m n :=
  loop_code F M B Inv μ s hE hI fun s hs => exC_of_ev hc (callT_point P T) _ _ _ _ _ (round s hs)

theorem again_n {σ : Type} {F : σ → Fr} {M : σ → Mem} {B : σ → Nat} {Inv : σ → Prop} {μ : σ → Nat} {s : σ} {Q : Post} :
    again n0 F M B Inv μ s Q .normal fr m n = ∃ s', Ent n0 fr m n (F s') (M s') (B s') ∧ Inv s' ∧ μ s' < μ s := (rfl)
theorem again_x {σ : Type} {F : σ → Fr} {M : σ → Mem} {B : σ → Nat} {Inv : σ → Prop} {μ : σ → Nat} {s : σ} {Q : Post} :
    again n0 F M B Inv μ s Q (.exit j) fr m n = Q (.exit j) fr m n := (rfl)
theorem again_r {σ : Type} {F : σ → Fr} {M : σ → Mem} {B : σ → Nat} {Inv : σ → Prop} {μ : σ → Nat} {s : σ} {Q : Post} :
    again n0 F M B Inv μ s Q .ret fr m n = Q .ret fr m n := rfl

-- the shape in which simp unfolds first
theorem u_onInt {v : SV} {F : Int → Prop} : onInt v F = (match v with | .int _ n => F n | _ => False) := (rfl)
theorem u_onBool {v : SV} {F : Bool → Prop} : onBool v F = (match v with | .bool b => F b | _ => False) := (rfl)
theorem u_onOpt0 {d : Int} {F : Int → Prop} : onOpt fr none d F = F d := (rfl)
theorem u_onOpt1 {d : Int} {F : Int → Prop} : onOpt fr (some x) d F = (match x.ev fr with | .int _ n => F n | _ => False) := (rfl)
theorem u_binV {op : BinOp} {x y : SV} {F : SV → Prop} : binV op x y F = (match x, y with
  | .int k a, .int k' b => binI op k k' a b F
  | .str a, .str b => binS op a b F
  | _, _ => False) := (rfl)
theorem u_srcOf {s : Nat} {v : SV} {F : Nat → List SV → Prop} : srcOfE m s v F = (match v with
  | .str t => s = 1 ∧ F t.length (t.map SV.byte)
  | v => srcSlE m s v F) := (rfl)
theorem u_srcSl {s : Nat} {v : SV} {F : Nat → List SV → Prop} : srcSlE m s v F = (match v with
  | .slc i o s' len _ => match rd m i with
    | some B => s' = s ∧ o + len * s ≤ B.cells.length ∧ F len ((B.cells.drop o).take (len * s))
    | none => False
  | .val (.slice none 0 0) => F 0 []
  | .val (.slice (some _) 0 _) => F 0 []
  | _ => False) := (rfl)
end

/- the ends of functions -/
def evRes (T : List (Nat × List SV)) (fr : Fr) : List RV → Mem → Nat → (List SV → Mem → Nat → Prop) → Prop
  | [], m, n, K => K [] m n
  | .t d :: r, m, n, K => evRes T fr r m n fun l m n => K (get fr d :: l) m n
  | .c d g :: r, m, n, K => evO T (fun _ _ _ _ _ => False) fr m n (fun v m n => evRes T fr r m n fun l m n => K (v :: l) m n) (.load g (.t d))

theorem exRes_mono {T : List (Nat × List SV)} {fr : Fr} : ∀ {rs : List RV} {m : Mem} {n : Nat} {K K' : List SV → Mem → Nat → Prop}, exRes T fr rs m n K → (∀ l m n, K l m n → K' l m n) → exRes T fr rs m n K'
  | [], m, n, K, K', h, hK => hK _ _ _ h
  | .t d :: r, m, n, K, K', h, hK => exRes_mono (rs := r) h fun l m n h => hK _ _ _ h
  | .c d g :: r, m, n, K, K', h, hK => by
    simp only [exRes] at h ⊢
    exact exO_mono (fun _ _ _ _ _ h => h.elim) h fun v m n h => exRes_mono h fun l m n h => hK _ _ _ h

theorem exRes_of_ev {T : List (Nat × List SV)} {fr : Fr} : ∀ {rs : List RV} {m : Mem} {n : Nat} {K : List SV → Mem → Nat → Prop}, evRes T fr rs m n K → exRes T fr rs m n K
  | [], m, n, K, h => h
  | .t d :: r, m, n, K, h => exRes_of_ev (rs := r) h
  | .c d g :: r, m, n, K, h => by
    simp only [evRes] at h
    simp only [exRes]
    exact exO_mono (fun _ _ _ _ _ h => h.elim) (exO_of_ev _ h) fun v m n h => exRes_of_ev h

/-- the value is plain, and nothing is said of memory -/
def finP (T : List (Nat × List SV)) (res : List RV) (r : SV) : Post := fun e fr m n =>
  match e with
  | .exit _ => False
  | _ => evRes T fr res m n fun l _ _ => retOf l = r
theorem finP_r {T : List (Nat × List SV)} {res : List RV} {r : SV} {fr : Fr} {m : Mem} {n : Nat} : finP T res r .ret fr m n = evRes T fr res m n fun l _ _ => retOf l = r := (rfl)
theorem finP_n {T : List (Nat × List SV)} {res : List RV} {r : SV} {fr : Fr} {m : Mem} {n : Nat} : finP T res r .normal fr m n = evRes T fr res m n fun l _ _ => retOf l = r := (rfl)
theorem finP_x {T : List (Nat × List SV)} {res : List RV} {r : SV} {fr : Fr} {m : Mem} {n j : Nat} : finP T res r (.exit j) fr m n = False := (rfl)

/-- THE RULE FOR A FUNCTION OF PLAIN VALUES -/
theorem fun_pure {P : Program} {T : List (Nat × List SV)} (u : Option Nat) (c1 : CallT) (hF : ∀ f a m n K, c1 f a m n K → callT P T f a m n K) {f : FuncId} {sf : SF} {args : List SV} {r : SV}
    (hc : chkF P f sf = true) (hlen : args.length ≤ sf.n) (hr : ∀ η, r.ren η = r)
    (h : den T c1 (callT P T) u 0 (finP T sf.res r) [.c sf.body] .normal (frOf 0 args) [] 0) : Fun P T f args [] 0 r [] 0 := by
  refine fun_of_exec hc hlen (Nat.le_refl _) (exC_mono (callT_point P T) _ _ _ _ _ _ (exC_of_ev hF (callT_point P T) _ _ _ _ _ h) fun e fr m n h => ?_)
  have key : (evRes T fr sf.res m n fun l _ _ => retOf l = r) → exRes T fr sf.res m n fun l m1 n1 => ∃ hs, EntM 0 m1 n1 hs [] 0 ∧ retOf l = r.ren (eta hs n1) := fun h =>
    exRes_mono (exRes_of_ev h) fun l m n h => ⟨[], ⟨rfl, Nat.le_refl _, rfl, trivial, trivial, trivial⟩, by rw [hr]; exact h⟩
  cases e with
  | normal => exact key h
  | exit j => exact h
  | ret => exact key h
end Go.Sx

/- The engine, part W: each operation of the evaluator by itself. -/
namespace Go.Sx
open Go
set_option linter.unusedSimpArgs false
set_option linter.unusedVariables false
section
variable {T : List (Nat × List SV)} {call : CallT} {fr : Fr} {m : Mem} {n : Nat} {K : Kt}

theorem e_box {e : TypeId} {x : Opd} : evO T call fr m n K (.box e x) = (match (x.ev fr).cells? with
      | some l => K (.ptr n 0) ((n, ⟨.own e, l⟩) :: m) (n + 1)
      | none => False) := (rfl)
theorem e_build {z : List SV} {parts : List (Nat × Nat × Opd)} : evO T call fr m n K (.build z parts) = (fillE fr z parts fun cs => K (.agg cs) m n) := (rfl)
theorem e_bslice {e : TypeId} {s : Nat} {k : Nat} {z : List SV} {parts : List (Nat × Nat × Opd)} : evO T call fr m n K (.bslice e s k z parts) = (fillE fr z parts fun cs => K (.slc n 0 s k none) ((n, ⟨.own e, cs⟩) :: m) (n + 1)) := (rfl)
theorem e_load {agg : Option Nat} {x : Opd} : evO T call fr m n K (.load agg x) = (match x.ev fr with
      | .ptr i o => match rd m i with
        | some B => match agg with
          | none => match B.cells[o]? with
            | some v => K v m n
            | none => False
          | some k => o + k ≤ B.cells.length ∧ K (.agg ((B.cells.drop o).take k)) m n
        | none => False
      | .gp g o => match lookT T g with
        | some cs => match agg with
          | none => match cs[o]? with
            | some v => K v m n
            | none => False
          | some k => o + k ≤ cs.length ∧ K (.agg ((cs.drop o).take k)) m n
        | none => False
      | _ => False) := (rfl)
theorem e_store {k : Nat} {a : Opd} {x : Opd} : evO T call fr m n K (.store k a x) = (match a.ev fr with
      | .ptr i o => match rd m i with
        | some ⟨.own e, cells⟩ => match (x.ev fr).cells? with
          | some l => l.length = k ∧ o + k ≤ cells.length ∧ K .any (upd m i ⟨.own e, splice cells o l⟩) n
          | none => False
        | _ => False
      | _ => False) := (rfl)
theorem e_idxS {x : Opd} {i : Opd} {s : Nat} : evO T call fr m n K (.idxS x i s) = (match i.ev fr with
      | .int _ ix => match x.ev fr with
        | .slc b o s' len _ => match rd m b with
          | some B => s' = s ∧ 0 ≤ ix ∧ ix < len ∧ o + ix.toNat * s < B.cells.length ∧ K (.ptr b (o + ix.toNat * s)) m n
          | none => False
        | _ => False
      | _ => False) := (rfl)
theorem e_idxV {x : Opd} {i : Opd} {len : Nat} {s : Nat} {agg : Bool} : evO T call fr m n K (.idxV x i len s agg) = (match i.ev fr with
      | .int _ ix => match x.ev fr with
        | .agg l => 0 ≤ ix ∧ ix < len ∧ match agg with
          | true => K (.agg ((l.drop (ix.toNat * s)).take s)) m n
          | false => match l[ix.toNat * s]? with
            | some v => K v m n
            | none => False
        | _ => False
      | _ => False) := (rfl)
theorem e_idxT {x : Opd} {i : Opd} : evO T call fr m n K (.idxT x i) = (match i.ev fr with
      | .int _ ix => match x.ev fr with
        | .str t => 0 ≤ ix ∧ match t[ix.toNat]? with
          | some c => K (SV.byte c) m n
          | none => False
        | _ => False
      | _ => False) := (rfl)
theorem e_fieldV {x : Opd} {off : Nat} {agg : Option Nat} : evO T call fr m n K (.fieldV x off agg) = (match x.ev fr with
      | .agg l => match agg with
        | some k => K (.agg ((l.drop off).take k)) m n
        | none => match l[off]? with
          | some v => K v m n
          | none => False
      | _ => False) := (rfl)
theorem e_eqv {neg : Bool} {pat : List Tag} {x : Opd} {y : Opd} : evO T call fr m n K (.eqv neg pat x y) = (match x.ev fr, y.ev fr with
      | .agg l, .agg l' => match eqPat pat l l' with
        | some b => K (.bool (if neg then !b else b)) m n
        | none => False
      | _, _ => False) := (rfl)
theorem e_isNil {neg : Bool} {x : Opd} : evO T call fr m n K (.isNil neg x) = (match x.ev fr with
      | .val (.slice none 0 0) => K (.bool (!neg)) m n
      | .val (.slice (some _) _ _) => K (.bool neg) m n
      | .slc b o _ _ _ => match rd m b with
        | some B => o < B.cells.length ∧ K (.bool neg) m n
        | none => False
      | _ => False) := (rfl)
theorem e_b2s {x : Opd} : evO T call fr m n K (.b2s x) = (srcSlE m 1 (x.ev fr) fun _ l => l.all isU8 = true ∧ K (.str (l.map byteOf)) m n) := (rfl)
theorem e_slcS {s : Nat} {x : Opd} {lo : Option Opd} {hi : Option Opd} : evO T call fr m n K (.slcS s x lo hi) = (match x.ev fr with
      | .slc b o s' len cap =>
        s' = s ∧ (match cap with
          | none => (match rd m b with
            | some B => o + len * s ≤ B.cells.length
            | none => False)
          | some c => len ≤ c) ∧
        onOpt fr lo 0 fun l => onOpt fr hi len fun h => 0 ≤ l ∧ l ≤ h ∧ h ≤ len ∧
          K (.slc b (o + l.toNat * s) s (h.toNat - l.toNat) (cap.map (· - l.toNat))) m n
      | .val (.slice none 0 0) => onOpt fr lo 0 fun l => onOpt fr hi 0 fun h => l = 0 ∧ h = 0 ∧ K (.val (.slice none 0 0)) m n
      | _ => False) := (rfl)
theorem e_arrAt {k : Nat} {x : Opd} : evO T call fr m n K (.arrAt k x) = (match x.ev fr with
      | .slc b o _ len _ => match rd m b with
        | some B => 0 < k ∧ k ≤ len ∧ o < B.cells.length ∧ K (.ptr b o) m n
        | none => False
      | _ => False) := (rfl)
theorem e_ext {x : Opd} {i : Nat} : evO T call fr m n K (.ext x i) = (match x.ev fr with
      | .tup l => match l[i]? with
        | some v => K v m n
        | none => False
      | _ => False) := (rfl)
theorem e_app {e : TypeId} {s : Nat} {bytes : Nat} {x : Opd} {y : Opd} : evO T call fr m n K (.app e s bytes x y) = (srcOfE m s (y.ev fr) fun k l =>
      match x.ev fr with
      | .slc i o s' len cap => match rd m i with
        | some ⟨.own e', cells⟩ => s' = s ∧ o = 0 ∧ cap = none ∧ (len + k) * bytes ≤ 2 ^ 40 ∧ bytes ≤ 2 ^ 20 ∧ e' = e ∧ len * s ≤ cells.length ∧
          K (.slc n 0 s (len + k) none) ((n, ⟨.own e, cells.take (len * s) ++ l⟩) :: rm m i) (n + 1)
        | _ => False
      | .val (.slice none 0 0) => k * bytes ≤ 2 ^ 40 ∧ bytes ≤ 2 ^ 20 ∧ K (.slc n 0 s k none) ((n, ⟨.own e, l⟩) :: m) (n + 1)
      | _ => False) := (rfl)
theorem e_copy {s : Nat} {x : Opd} {y : Opd} : evO T call fr m n K (.copy s x y) = (srcOfE m s (y.ev fr) fun k l =>
      match x.ev fr with
      | .slc i o s' len _ => match rd m i with
        | some ⟨.own e, cells⟩ => s' = s ∧ o + len * s ≤ cells.length ∧
          K (.int .i64 (min k len : Nat)) (upd m i ⟨.own e, splice cells o (l.take (min k len * s))⟩) n
        | _ => False
      | _ => False) := (rfl)
theorem e_mv {x : Opd} : evO T call fr m n K (.mv x) = (K (x.ev fr) m n) := (rfl)
theorem e_pick {c : Opd} {a : Opd} {b : Opd} : evO T call fr m n K (.pick c a b) = (match c.ev fr with | .bool t => gd t true (K (a.ev fr) m n) (K (b.ev fr) m n) | _ => False) := (rfl)
theorem e_new {e : TypeId} {z : List SV} : evO T call fr m n K (.new e z) = (K (.ptr n 0) ((n, ⟨.own e, z⟩) :: m) (n + 1)) := (rfl)
theorem e_nilc {x : Opd} : evO T call fr m n K (.nilc x) = (match x.ev fr with
      | .ptr i o => K (.ptr i o) m n
      | .gp g o => K (.gp g o) m n
      | .fn f a b => K (.fn f a b) m n
      | _ => False) := (rfl)
theorem e_fld {x : Opd} {off : Nat} : evO T call fr m n K (.fld x off) = (match x.ev fr with
      | .ptr i o => K (.ptr i (o + off)) m n
      | .gp g o => K (.gp g (o + off)) m n
      | _ => False) := (rfl)
theorem e_idxA {x : Opd} {i : Opd} {len : Nat} {s : Nat} : evO T call fr m n K (.idxA x i len s) = (onInt (i.ev fr) fun ix => 0 ≤ ix ∧ ix < len ∧
      match x.ev fr with
      | .ptr b o => K (.ptr b (o + ix.toNat * s)) m n
      | .gp b o => K (.gp b (o + ix.toNat * s)) m n
      | _ => False) := (rfl)
theorem e_bin {op : BinOp} {x : Opd} {y : Opd} : evO T call fr m n K (.bin op x y) = (binV op (x.ev fr) (y.ev fr) fun v => K v m n) := (rfl)
theorem e_eqb {neg : Bool} {x : Opd} {y : Opd} : evO T call fr m n K (.eqb neg x y) = (match x.ev fr, y.ev fr with
      | .bool a, .bool c => K (.bool (if neg then !(a == c) else a == c)) m n
      | _, _ => False) := (rfl)
theorem e_un {op : UnOp} {x : Opd} : evO T call fr m n K (.un op x) = (match op, x.ev fr with
      | .not, .bool b => K (.bool (!b)) m n
      | .neg, .int k a => K (.int k (k.wrap (0 - a))) m n
      | .xor, .int k a => K (.int k (bitop .xor k (if k.signed then -1 else k.max) a)) m n
      | _, _ => False) := (rfl)
theorem e_conv {k : IntKind} {x : Opd} : evO T call fr m n K (.conv k x) = (match x.ev fr with
      | .int _ a => K (.int k (k.wrap a)) m n
      | _ => False) := (rfl)
theorem e_strS {x : Opd} : evO T call fr m n K (.strS x) = (match x.ev fr with
      | .str t => K (.str t) m n
      | _ => False) := (rfl)
theorem e_s2b {e : TypeId} {x : Opd} : evO T call fr m n K (.s2b e x) = (match x.ev fr with
      | .str t => K (.slc n 0 1 t.length none) ((n, ⟨.own e, t.map SV.byte⟩) :: m) (n + 1)
      | _ => False) := (rfl)
theorem e_mkfn {f : FuncId} {first : List Opd} {cap : List Opd} : evO T call fr m n K (.mkfn f first cap) = (K (.fn f (first.map (·.ev fr)) (cap.map (·.ev fr))) m n) := (rfl)
theorem e_mksl {e : TypeId} {s : Nat} {bytes : Nat} {z : List SV} {l : Opd} {c : Opd} : evO T call fr m n K (.mksl e s bytes z l c) = (onInt (l.ev fr) fun ln => onInt (c.ev fr) fun cp => 0 ≤ ln ∧ ln ≤ cp ∧ cp * bytes ≤ 2 ^ 40 ∧ cp ≤ 2 ^ 40 ∧
        K (.slc n 0 s ln.toNat none) ((n, ⟨.own e, rep cp.toNat z⟩) :: m) (n + 1)) := (rfl)
theorem e_slcA {k : Nat} {s : Nat} {x : Opd} {lo : Option Opd} {hi : Option Opd} : evO T call fr m n K (.slcA k s x lo hi) = (match x.ev fr with
      | .ptr b o => onOpt fr lo 0 fun l => onOpt fr hi k fun h => 0 ≤ l ∧ l ≤ h ∧ h ≤ k ∧
          K (.slc b (o + l.toNat * s) s (h.toNat - l.toNat) (some (k - l.toNat))) m n
      | _ => False) := (rfl)
theorem e_slcT {x : Opd} {lo : Option Opd} {hi : Option Opd} : evO T call fr m n K (.slcT x lo hi) = (match x.ev fr with
      | .str t => onOpt fr lo 0 fun l => onOpt fr hi t.length fun h => 0 ≤ l ∧ l ≤ h ∧ h ≤ t.length ∧
          K (.str ((t.drop l.toNat).take (h.toNat - l.toNat))) m n
      | _ => False) := (rfl)
theorem e_call {f : FuncId} {args : List Opd} : evO T call fr m n K (.call f args) = (call f (args.map (·.ev fr)) m n K) := (rfl)
theorem e_callp {f : FuncId} {args : List Opd} : evO T call fr m n K (.callp f args) = (SV.flatL (args.map (·.ev fr)) = true ∧ call f (args.map (·.ev fr)) [] 0 fun v m' n' => m' = [] ∧ n' = 0 ∧ v.flat = true ∧ K v m n) := (rfl)
theorem e_callv {x : Opd} {args : List Opd} : evO T call fr m n K (.callv x args) = (match x.ev fr with
      | .fn f first cap => call f (first ++ args.map (·.ev fr) ++ cap) m n K
      | _ => False) := (rfl)
theorem e_len {isStr : Bool} {x : Opd} : evO T call fr m n K (.len isStr x) = (match isStr, x.ev fr with
      | true, .str t => K (.int .i64 t.length) m n
      | false, .slc _ _ _ l _ => K (.int .i64 l) m n
      | false, .val (.slice none 0 0) => K (.int .i64 0) m n
      | _, _ => False) := (rfl)
theorem e_lenA {k : Nat} : evO T call fr m n K (.lenA k) = (K (.int .i64 k) m n) := (rfl)
theorem e_mkmap {a : Option Nat} : evO T call fr m n K (.mkmap a) = K (.mp n) ((n, ⟨.map a [], []⟩) :: m) (n + 1) := (rfl)
theorem e_mput {a : Option Nat} {x key : Opd} : evO T call fr m n K (.mput a x key) = (match x.ev fr with
    | .mp i => match keysOf m i with
      | some (a', ks) => match kvOf a (key.ev fr) with
        | some kv => a' = a ∧ K .any (upd m i ⟨.map a (insK ks kv), []⟩) n
        | none => False
      | none => False
    | _ => False) := (rfl)
theorem e_mlen {x : Opd} : evO T call fr m n K (.mlen x) = (match x.ev fr with
    | .mp i => match keysOf m i with
      | some (_, ks) => K (.int .i64 ks.length) m n
      | none => False
    | _ => False) := (rfl)
theorem e_mk8 {x : Opd} : evO T call fr m n K (.mk8 x) = (match x.ev fr with
    | .slc i o s len cap => match rd m i with
      | some ⟨.own e, cells⟩ => 0 < len ∧ 0 < cells.length ∧ K (.slc i o s len cap) (upd m i ⟨.own e, cells⟩) n
      | _ => False
    | _ => False) := (rfl)
theorem e_capN {x : Opd} : evO T call fr m n K (.capN x) = (match x.ev fr with
    | .val (.slice none 0 0) => K (.int .i64 0) m n
    | _ => False) := (rfl)
theorem e_appZ {e : TypeId} {s bytes : Nat} {z : List SV} {x k : Opd} : evO T call fr m n K (.appZ e s bytes z x k) = (onInt (k.ev fr) fun k =>
    match x.ev fr with
    | .val (.slice none 0 0) => 0 < k ∧ k * bytes ≤ 2 ^ 40 ∧ bytes ≤ 2 ^ 20 ∧ K (.slc n 0 s k.toNat none) ((n, ⟨.own e, rep k.toNat z⟩) :: m) (n + 1)
    | _ => False) := (rfl)
theorem e_mx {x : Opd} {y : Opd} : evO T call fr m n K (.mx x y) = (match x.ev fr, y.ev fr with
      | .int k a, .int _ b => K (.int k (if b > a then b else a)) m n
      | _, _ => False) := (rfl)
theorem e_mn {x : Opd} {y : Opd} : evO T call fr m n K (.mn x y) = (match x.ev fr, y.ev fr with
      | .int k a, .int _ b => K (.int k (if b < a then b else a)) m n
      | _, _ => False) := (rfl)
end

/-- the slot g, of which something is known -/
def setv : Fr → Nat → SV → Fr
  | [], _, _ => []
  | (e, u) :: r, g, v => if e = g then (e, v) :: r else (e, u) :: setv r g v

theorem setv_self : ∀ {fr : Fr} {g : Nat} {v : SV}, Sx.get fr g = v → setv fr g v = fr
  | [], _, _, _ => rfl
  | (e, u) :: r, g, v, h => by
    unfold Sx.get at h
    unfold setv
    split
    · rename_i he; rw [if_pos he] at h; rw [h]
    · rename_i he; rw [if_neg he] at h; rw [setv_self h]

theorem den_g {T : List (Nat × List SV)} {c1 c2 : CallT} {u : Option Nat} {n0 : Nat} {Q : Post} {st : List It} {fr : Fr} {m : Mem} {n : Nat} {l : List Opr} {d : Option Nat} {op : SOp} {g : Nat} {t : Bool} {ks p h : List Nat} :
    den T c1 c2 u n0 Q (.o (⟨d, op, some (g, t), ks, p, h⟩ :: l) :: st) .normal fr m n =
    (match Sx.get fr g with
      | .bool t' => gd t' t (evO T c1 (setv fr g (.bool t)) m n (kont T c1 c2 u n0 Q l st (setv fr g (.bool t)) d ks) op)
          (den T c1 c2 u n0 Q (.o l :: st) .normal (dels (putO (setv fr g (.bool (!t))) d (.val undef)) ks) m n)
      | .val (.tuple _) => den T c1 c2 u n0 Q (.o l :: st) .normal (dels (putO fr d (.val undef)) ks) m n
      | _ => False) := by
  rw [den_o2]
  generalize hg : Sx.get fr g = gv
  cases gv with
  | bool t' =>
    apply propext
    constructor
    · rintro ⟨h1, h2⟩
      refine ⟨fun e => ?_, fun e => ?_⟩
      · rw [setv_self (by rw [hg, e])]; exact h1 e
      · rw [setv_self (by rw [hg, e])]; exact h2 e
    · rintro ⟨h1, h2⟩
      refine ⟨fun e => ?_, fun e => ?_⟩
      · have := h1 e; rwa [setv_self (by rw [hg, e])] at this
      · have := h2 e; rwa [setv_self (by rw [hg, e])] at this
  | val v => cases v <;> rfl
  | _ => rfl

theorem u_pick {b : Bool} {A B : Prop} : ((b = true → A) ∧ (b = false → B)) = (match b with | true => A | false => B) := by
  cases b <;> simp

theorem wrap64 {n : Int} (h1 : -9223372036854775808 ≤ n) (h2 : n ≤ 9223372036854775807) : IntKind.i64.wrap n = n := by
  rw [IntKind.wrap_i64]; omega
theorem wrapU {n : Int} {k : IntKind} (hk : k.signed = false) (h1 : 0 ≤ n) (h2 : n < 2 ^ k.bits) : k.wrap n = n := by
  simp only [IntKind.wrap, hk, Bool.false_and, Bool.false_eq_true, if_false]
  exact Int.emod_eq_of_lt h1 h2
end Go.Sx

/- The engine, part X: tables of what is known of calls; functions that change one block. -/
namespace Go.Sx
open Go
set_option linter.unusedSimpArgs false
set_option linter.unusedVariables false

def lookF {α : Type} : List (FuncId × α) → FuncId → Option α
  | [], _ => none
  | (g, x) :: r, f => if g = f then some x else lookF r f
theorem lookF_mem {α : Type} : ∀ {L : List (FuncId × α)} {f : FuncId} {x : α}, lookF L f = some x → (f, x) ∈ L
  | (g, y) :: r, f, x, h => by
    unfold lookF at h
    split at h
    · rename_i e; subst e; cases h; exact List.mem_cons_self
    · exact List.mem_cons_of_mem _ (lookF_mem h)

/-- functions of plain values; methods that change the block that they are handed -/
structure Tab where
  p : List (FuncId × (List SV → Option SV))
  o : List (FuncId × TypeId × (List SV → List SV → Option (SV × List SV)))

def callX (L : Tab) : CallT := fun f args m n K =>
  match lookF L.p f with
  | some g => (match g args with
    | some r => K r m n
    | none => False)
  | none => match lookF L.o f with
    | some (e, g) => (match args with
      | .ptr i 0 :: rest => (match rd m i with
        | some ⟨.own e', cells⟩ => if e' = e then (match g rest cells with
          | some (r, cells') => i < n ∧ K r ((i, ⟨.own e, cells'⟩) :: rm m i) n
          | none => False) else False
        | _ => False)
      | _ => False)
    | none => False

theorem u_callX {L : Tab} {f : FuncId} {args : List SV} {m : Mem} {n : Nat} {K : Kt} : callX L f args m n K = (match lookF L.p f with
  | some g => (match g args with
    | some r => K r m n
    | none => False)
  | none => match lookF L.o f with
    | some (e, g) => (match args with
      | .ptr i 0 :: rest => (match rd m i with
        | some ⟨.own e', cells⟩ => if e' = e then (match g rest cells with
          | some (r, cells') => i < n ∧ K r ((i, ⟨.own e, cells'⟩) :: rm m i) n
          | none => False) else False
        | _ => False)
      | _ => False)
    | none => False) := (rfl)

def Plain (l : List SV) : Prop := ∀ η, SV.renL η l = l

structure TabX (P : Program) (T : List (Nat × List SV)) (L : Tab) : Prop where
  p : ∀ x ∈ L.p, ∀ args r, x.2 args = some r → Fun P T x.1 args [] 0 r [] 0 ∧ Plain args ∧ Plain [r]
  o : ∀ x ∈ L.o, ∀ args cells r cells', x.2.2 args cells = some (r, cells') →
    Fun P T x.1 (.ptr 0 0 :: args) [(0, ⟨.own x.2.1, cells⟩)] 1 r [(0, ⟨.own x.2.1, cells'⟩)] 1 ∧ Plain args ∧ Plain cells ∧ Plain [r] ∧ Plain cells'

theorem callX_ok {P : Program} {T : List (Nat × List SV)} {L : Tab} (h : TabX P T L) : ∀ f a m n K, callX L f a m n K → callT P T f a m n K := by
  intro f a m n K hk
  unfold callX at hk
  split at hk
  · rename_i g hg
    split at hk
    · rename_i r hr
      obtain ⟨h1, h2, h3⟩ := h.p _ (lookF_mem hg) _ _ hr
      refine ⟨[], a, [], r, [], 0, h1, (h2 _).symm, trivial, trivial, trivial, by simp, trivial, ?_⟩
      have h4 : r.ren (eta [] n) = r := by have := h3 (eta [] n); simpa [SV.renL] using this
      rw [h4]; exact hk
    · exact hk.elim
  · split at hk
    · rename_i e g hg
      split at hk
      · rename_i i rest
        split at hk
        · rename_i e' cells hB
          split at hk
          · rename_i he
            subst he
            split at hk
            · rename_i r cells' hr
              obtain ⟨h1, h2, h3, h4, h5⟩ := h.o _ (lookF_mem hg) _ _ _ _ hr
              have e0 : eta [(i, 0)] n 0 = (i, 0) := rfl
              have e1 : SV.ren (eta [(i, 0)] n) (.ptr 0 0) = .ptr i 0 := by simp [SV.ren, e0]
              have e2 : r.ren (eta [(i, 0)] n) = r := by have := h4 (eta [(i, 0)] n); simpa [SV.renL] using this
              refine ⟨[(i, 0)], .ptr 0 0 :: rest, [(0, ⟨.own e', cells⟩)], r, [(0, ⟨.own e', cells'⟩)], 1, h1, ?_, ?_, ?_, ?_, ?_, ?_, ?_⟩
              · simp only [SV.renL, e1, h2 _]
              · refine ⟨⟨_, by rw [e0]; exact hB, ?_⟩, trivial⟩
                exact ⟨by rw [e0], rfl, (h3 _).symm⟩
              · exact ⟨by simp, trivial⟩
              · exact ⟨by simp, trivial⟩
              · intro x hx; simp at hx; subst hx; exact hk.1
              · exact ⟨fun _ => by rw [e0], trivial⟩
              · rw [e2]
                have : newOwn (eta [(i, 0)] n) [(0, ⟨.own e', cells'⟩)] ++ rms m (targets (eta [(i, 0)] n) [(0, ⟨.own e', cells⟩)]) = (i, ⟨.own e', cells'⟩) :: rm m i := by
                  simp [newOwn, targets, rms, Kind.isOwn, e0, h5 _]
                rw [this]
                simpa using hk.2
            · exact hk.elim
          · exact hk.elim
        · exact hk.elim
      · exact hk.elim
    · exact hk.elim

/-- a function that leaves its block in this state -/
def finO (T : List (Nat × List SV)) (res : List RV) (r : SV) (e : TypeId) (cells : List SV) : Post := fun x fr m n =>
  match x with
  | .exit _ => False
  | _ => evRes T fr res m n fun l m _ => (match rd m 0 with | some B => B = ⟨.own e, cells⟩ | none => False) ∧ retOf l = r
section
variable {T : List (Nat × List SV)} {res : List RV} {r : SV} {e : TypeId} {cells : List SV} {fr : Fr} {m : Mem} {n j : Nat}
theorem finO_r : finO T res r e cells .ret fr m n = evRes T fr res m n fun l m _ => (match rd m 0 with | some B => B = ⟨.own e, cells⟩ | none => False) ∧ retOf l = r := (rfl)
theorem finO_n : finO T res r e cells .normal fr m n = evRes T fr res m n fun l m _ => (match rd m 0 with | some B => B = ⟨.own e, cells⟩ | none => False) ∧ retOf l = r := (rfl)
theorem finO_x : finO T res r e cells (.exit j) fr m n = False := (rfl)
end

/-- THE RULE FOR A METHOD THAT CHANGES ITS BLOCK -/
theorem fun_own {P : Program} {T : List (Nat × List SV)} (u : Option Nat) (c1 : CallT) (hF : ∀ f a m n K, c1 f a m n K → callT P T f a m n K) {f : FuncId} {sf : SF} {args : List SV} {r : SV} {e : TypeId} {cells cells' : List SV}
    (hc : chkF P f sf = true) (hlen : args.length + 1 ≤ sf.n) (hr : Plain [r]) (hcs : Plain cells')
    (h : den T c1 (callT P T) u 1 (finO T sf.res r e cells') [.c sf.body] .normal (frOf 0 (.ptr 0 0 :: args)) [(0, ⟨.own e, cells⟩)] 1) :
    Fun P T f (.ptr 0 0 :: args) [(0, ⟨.own e, cells⟩)] 1 r [(0, ⟨.own e, cells'⟩)] 1 := by
  refine fun_of_exec hc (by simpa using hlen) (Nat.le_refl _) (exC_mono (callT_point P T) _ _ _ _ _ _ (exC_of_ev hF (callT_point P T) _ _ _ _ _ h) fun x fr m n h => ?_)
  have key : (evRes T fr sf.res m n fun l m _ => (match rd m 0 with | some B => B = ⟨.own e, cells'⟩ | none => False) ∧ retOf l = r) →
      exRes T fr sf.res m n fun l m1 n1 => ∃ hs, EntM 1 m1 n1 hs [(0, ⟨.own e, cells'⟩)] 1 ∧ retOf l = r.ren (eta hs n1) := fun h =>
    exRes_mono (exRes_of_ev h) fun l m n h => by
      obtain ⟨h1, h2⟩ := h
      split at h1
      · rename_i B hB
        subst h1
        refine ⟨[(0, 0)], ⟨rfl, Nat.le_refl _, rfl, ⟨⟨_, hB, rfl, rfl, (hcs _).symm⟩, trivial⟩, ⟨by simp, trivial⟩, ⟨by simp, trivial⟩⟩, ?_⟩
        have := hr (eta [(0, 0)] n)
        simp [SV.renL] at this
        rw [this]; exact h2
      · exact h1.elim
  cases x with
  | normal => exact key h
  | exit j => exact h
  | ret => exact key h

theorem idHs_len : ∀ k, (idHs k).length = k
  | 0 => rfl
  | k + 1 => by simp [idHs, idHs_len k]

/-- THE RULE FOR A FUNCTION OF WHICH THE ANSWER ALONE COUNTS -/
theorem fun_val {P : Program} {T : List (Nat × List SV)} (u : Option Nat) (c1 : CallT) (hF : ∀ f a m n K, c1 f a m n K → callT P T f a m n K) {f : FuncId} {sf : SF} {args : List SV} {m0 : Mem} {n0 : Nat} {r : SV}
    (hc : chkF P f sf = true) (hlen : args.length ≤ sf.n) (hr : ∀ η, r.ren η = r)
    (h : den T c1 (callT P T) u n0 (finP T sf.res r) [.c sf.body] .normal (frOf 0 args) m0 n0) : Fun P T f args m0 n0 r [] n0 := by
  refine fun_of_exec hc hlen (Nat.le_refl _) (exC_mono (callT_point P T) _ _ _ _ _ _ (exC_of_ev hF (callT_point P T) _ _ _ _ _ h) fun e fr m n h => ?_)
  have key : (evRes T fr sf.res m n fun l _ _ => retOf l = r) → exRes T fr sf.res m n fun l m1 n1 => ∃ hs, EntM n0 m1 n1 hs [] n0 ∧ retOf l = r.ren (eta hs n1) := fun h =>
    exRes_mono (exRes_of_ev h) fun l m n h => ⟨idHs n0, ⟨idHs_len n0, Nat.le_refl _, by rw [List.take_of_length_le (by rw [idHs_len]; exact Nat.le_refl _)], trivial, trivial, trivial⟩, by rw [hr]; exact h⟩
  cases e with
  | normal => exact key h
  | exit j => exact h
  | ret => exact key h

/-- one function whose calls are left to the reader, the others by the table -/
def callAnd (f0 : FuncId) (cT c : CallT) : CallT := fun f args m n K => if f = f0 then cT f args m n K else c f args m n K
theorem u_callAnd {f0 f : FuncId} {cT c : CallT} {args : List SV} {m : Mem} {n : Nat} {K : Kt} : callAnd f0 cT c f args m n K = if f = f0 then cT f args m n K else c f args m n K := (rfl)
theorem callAnd_ok {P : Program} {T : List (Nat × List SV)} {f0 : FuncId} {c : CallT} (hc : ∀ f a m n K, c f a m n K → callT P T f a m n K) :
    ∀ f a m n K, callAnd f0 (callT P T) c f a m n K → callT P T f a m n K := by
  intro f a m n K h
  unfold callAnd at h
  split at h
  · exact h
  · exact hc _ _ _ _ _ h
end Go.Sx

/- The functions of the program that are walked through, written out for the engine (printed by wip/tools/Print.lean from the dump), and the kernel's check of each against the program. -/
namespace Go.Proofs.YtkfbkooobfepeaaDoor.Sf
open Go Go.Sx
set_option maxRecDepth 100000
set_option linter.unusedSimpArgs false
set_option linter.unusedVariables false

/-- custody/custodylaw30.CustodianStatements -/
def sf5 : SF := ⟨54, [.t 4],
 .seq (.reg [⟨(some 2), .box 43 (.t 0), none, [0], [], []⟩,
   ⟨(some 3), .box 43 (.t 1), none, [1], [], []⟩,
   ⟨(some 4), .mv (.c (.bool false)), none, [4], [], []⟩])
  (.seq (.reg [⟨(some 7), .fld (.t 2) 0, none, [], [], []⟩,
    ⟨(some 8), .load (some 16) (.t 7), none, [7], [], []⟩,
    ⟨(some 9), .fld (.t 2) 32, none, [], [], []⟩,
    ⟨(some 10), .load none (.t 9), none, [9], [], []⟩,
    ⟨(some 11), .fld (.t 2) 33, none, [], [], []⟩,
    ⟨(some 12), .load none (.t 11), none, [11], [], []⟩,
    ⟨(some 13), .fld (.t 2) 34, none, [], [], []⟩,
    ⟨(some 14), .load none (.t 13), none, [13], [], []⟩,
    ⟨(some 15), .fld (.t 2) 16, none, [], [], []⟩,
    ⟨(some 16), .load (some 16) (.t 15), none, [15], [], []⟩,
    ⟨(some 17), .callp 24 [.t 8, .t 10, .t 12, .t 14, .t 16], none, [8, 10, 12, 14, 16], [], []⟩,
    ⟨(some 5), .mv (.t 17), none, [17], [], []⟩])
   (.seq (.reg [⟨(some 18), .fld (.t 3) 0, none, [], [], []⟩,
     ⟨(some 19), .load (some 16) (.t 18), none, [18], [], []⟩,
     ⟨(some 20), .fld (.t 3) 32, none, [], [], []⟩,
     ⟨(some 21), .load none (.t 20), none, [20], [], []⟩,
     ⟨(some 22), .fld (.t 3) 33, none, [], [], []⟩,
     ⟨(some 23), .load none (.t 22), none, [22], [], []⟩,
     ⟨(some 24), .fld (.t 3) 34, none, [], [], []⟩,
     ⟨(some 25), .load none (.t 24), none, [24], [], []⟩,
     ⟨(some 26), .fld (.t 3) 16, none, [], [], []⟩,
     ⟨(some 27), .load (some 16) (.t 26), none, [26], [], []⟩,
     ⟨(some 28), .callp 24 [.t 19, .t 21, .t 23, .t 25, .t 27], none, [19, 21, 23, 25, 27], [], []⟩,
     ⟨(some 6), .mv (.t 28), none, [28], [], []⟩])
    (.seq (.reg [⟨(some 29), .callp 9 [], none, [], [], []⟩,
      ⟨(some 30), .mv (.t 29), none, [29], [], []⟩,
      ⟨(some 31), .mv (.t 5), (some (30, true)), [], [], []⟩,
      ⟨(some 32), .fld (.t 2) 0, (some (30, true)), [], [], []⟩,
      ⟨(some 33), .load (some 16) (.t 32), (some (30, true)), [32], [], []⟩,
      ⟨(some 34), .fld (.t 2) 32, (some (30, true)), [], [], []⟩,
      ⟨(some 35), .load none (.t 34), (some (30, true)), [34], [], []⟩,
      ⟨(some 36), .fld (.t 2) 33, (some (30, true)), [], [], []⟩,
      ⟨(some 37), .load none (.t 36), (some (30, true)), [36], [], []⟩,
      ⟨(some 38), .fld (.t 2) 34, (some (30, true)), [], [], []⟩,
      ⟨(some 39), .load none (.t 38), (some (30, true)), [38], [], []⟩,
      ⟨(some 40), .fld (.t 2) 16, (some (30, true)), [], [], []⟩,
      ⟨(some 41), .load (some 16) (.t 40), (some (30, true)), [40], [], []⟩,
      ⟨(some 42), .callp 25 [.t 33, .t 35, .t 37, .t 39, .t 41], (some (30, true)), [33, 35, 37, 39, 41], [], []⟩,
      ⟨(some 43), .bin .eql (.t 31) (.t 42), (some (30, true)), [31, 42], [], []⟩,
      ⟨(some 44), .pick (.t 30) (.t 43) (.c (.bool false)), none, [30, 43], [], []⟩,
      ⟨(some 45), .mv (.t 44), none, [44], [], []⟩,
      ⟨(some 46), .mv (.t 5), (some (45, true)), [5], [], []⟩,
      ⟨(some 47), .mv (.t 6), (some (45, true)), [6], [], []⟩,
      ⟨(some 48), .bin .eql (.t 46) (.t 47), (some (45, true)), [46, 47], [], []⟩,
      ⟨(some 49), .load (some 35) (.t 2), (some (45, true)), [2], [], []⟩,
      ⟨(some 50), .load (some 35) (.t 3), (some (45, true)), [3], [], []⟩,
      ⟨(some 51), .eqv false [.i .u8, .i .u8, .i .u8, .i .u8, .i .u8, .i .u8, .i .u8, .i .u8, .i .u8, .i .u8, .i .u8, .i .u8, .i .u8, .i .u8, .i .u8, .i .u8, .i .u8, .i .u8, .i .u8, .i .u8, .i .u8, .i .u8, .i .u8, .i .u8, .i .u8, .i .u8, .i .u8, .i .u8, .i .u8, .i .u8, .i .u8, .i .u8, .i .i64, .i .i64, .i .i64] (.t 49) (.t 50), (some (45, true)), [49, 50], [], []⟩,
      ⟨(some 52), .eqb false (.t 48) (.t 51), (some (45, true)), [48, 51], [], []⟩,
      ⟨(some 53), .pick (.t 45) (.t 52) (.c (.bool false)), none, [45, 52], [], []⟩,
      ⟨(some 4), .mv (.t 53), none, [53], [], []⟩])
     (.ret))))⟩
theorem chk5 : chkF Tryd.prog 5 sf5 = true := by kernel_rfl
/-- custody/custodylaw30.sanity -/
def sf9 : SF := ⟨110, [.t 0],
 .seq (.reg [⟨(some 0), .mv (.c (.bool false)), none, [0], [], []⟩])
  (.seq (.reg [⟨(some 12), .call 28 [], none, [], [], []⟩,
    ⟨(some 1), .new 24 [.int .i64 0, .int .i64 0, .val (.slice none 0 0)], none, [], [], []⟩,
    ⟨none, .store 3 (.t 1) (.t 12), none, [12], [], []⟩])
   (.seq (.reg [⟨(some 13), .call 28 [], none, [], [], []⟩,
     ⟨(some 2), .new 24 [.int .i64 0, .int .i64 0, .val (.slice none 0 0)], none, [], [], []⟩,
     ⟨none, .store 3 (.t 2) (.t 13), none, [13], [], []⟩])
    (.seq (.reg [⟨(some 14), .fld (.t 2) 1, none, [], [], []⟩,
      ⟨none, .store 1 (.t 14) (.c (.int .i64 3)), none, [14], [], []⟩])
     (.seq (.regW 10 [⟨(some 16), .load (some 3) (.t 1), none, [], [], [3, 17, 18, 19]⟩,
       ⟨(some 17), .fld (.t 1) 2, none, [], [], [3, 16]⟩,
       ⟨(some 18), .load none (.t 17), none, [], [1], [3, 16]⟩,
       ⟨(some 19), .slcS 18 (.t 18) (some (.c (.int .i64 1))) none, none, [], [1, 2], [3, 16]⟩,
       ⟨(some 20), .call 10 [.t 16, .c (.int .i64 1), .t 19], none, [], [0, 1, 2, 3], [3]⟩,
       ⟨(some 15), .mv (.t 20), none, [], [0, 1, 2, 3, 4], [3]⟩,
       ⟨(some 21), .ext (.t 15) 0, none, [], [0, 1, 2, 3, 4, 5], [3, 22]⟩,
       ⟨(some 22), .ext (.t 15) 1, none, [], [0, 1, 2, 3, 4, 5], [3, 21]⟩,
       ⟨(some 3), .new 24 [.int .i64 0, .int .i64 0, .val (.slice none 0 0)], none, [], [], [15, 16, 17, 18, 19, 20, 21, 22]⟩,
       ⟨none, .store 3 (.t 3) (.t 21), none, [15, 16, 17, 18, 19, 20, 21], [0, 1, 2, 3, 4, 5, 6, 8], [22]⟩,
       ⟨(some 4), .mv (.t 22), none, [22], [0, 1, 2, 3, 4, 5, 6, 7, 8, 9], []⟩])
      (.seq (.reg [⟨(some 24), .load (some 3) (.t 1), none, [], [], []⟩,
        ⟨(some 25), .call 22 [.t 24, .c (.int .i64 2), .c (.str []), .c (.str [])], none, [24], [], []⟩,
        ⟨(some 23), .mv (.t 25), none, [25], [], []⟩,
        ⟨(some 26), .ext (.t 23) 0, none, [], [], []⟩,
        ⟨(some 27), .ext (.t 23) 1, none, [23], [], []⟩,
        ⟨(some 5), .mv (.t 26), none, [5, 26], [], []⟩,
        ⟨(some 6), .mv (.t 27), none, [27], [], []⟩])
       (.seq (.reg [⟨(some 29), .load (some 3) (.t 1), none, [], [], []⟩,
         ⟨(some 30), .call 22 [.t 29, .c (.int .i64 0), .c (.str []), .c (.str [])], none, [29], [], []⟩,
         ⟨(some 28), .mv (.t 30), none, [30], [], []⟩,
         ⟨(some 31), .ext (.t 28) 0, none, [], [], []⟩,
         ⟨(some 32), .ext (.t 28) 1, none, [28], [], []⟩,
         ⟨(some 7), .mv (.t 31), none, [7, 31], [], []⟩,
         ⟨(some 8), .mv (.t 32), none, [32], [], []⟩])
        (.seq (.reg [⟨(some 34), .load (some 3) (.t 1), none, [], [], []⟩,
          ⟨(some 35), .call 18 [.t 34], none, [34], [], []⟩,
          ⟨(some 36), .call 26 [.t 35], none, [35], [], []⟩,
          ⟨(some 33), .mv (.t 36), none, [36], [], []⟩,
          ⟨(some 37), .ext (.t 33) 0, none, [], [], []⟩,
          ⟨(some 38), .ext (.t 33) 1, none, [33], [], []⟩,
          ⟨(some 9), .new 24 [.int .i64 0, .int .i64 0, .val (.slice none 0 0)], none, [], [], []⟩,
          ⟨none, .store 3 (.t 9) (.t 37), none, [37], [], []⟩,
          ⟨(some 10), .mv (.t 38), none, [38], [], []⟩])
         (.seq (.reg [⟨(some 39), .build [.int .u8 0, .int .u8 0, .int .u8 0, .int .u8 0, .int .u8 0, .int .u8 0, .int .u8 0, .int .u8 0, .int .u8 0, .int .u8 0, .int .u8 0, .int .u8 0, .int .u8 0, .int .u8 0, .int .u8 0, .int .u8 0] [(0, 1, .c (.int .u8 1))], none, [], [], []⟩,
           ⟨(some 40), .build [.int .u8 0, .int .u8 0, .int .u8 0, .int .u8 0, .int .u8 0, .int .u8 0, .int .u8 0, .int .u8 0, .int .u8 0, .int .u8 0, .int .u8 0, .int .u8 0, .int .u8 0, .int .u8 0, .int .u8 0, .int .u8 0] [(0, 1, .c (.int .u8 4))], none, [], [], []⟩,
           ⟨(some 41), .callp 24 [.t 39, .c (.int .i64 2), .c (.int .i64 3), .c (.int .i64 1), .t 40], none, [39, 40], [], []⟩,
           ⟨(some 11), .mv (.t 41), none, [41], [], []⟩])
          (.seq (.regD 65 [⟨(some 42), .load (some 3) (.t 1), none, [], [], []⟩,
            ⟨(some 43), .call 12 [.t 42], none, [], [0], []⟩,
            ⟨(some 44), .mv (.t 43), none, [], [0, 1], []⟩,
            ⟨(some 45), .load (some 3) (.t 2), (some (44, true)), [], [0, 1, 2], []⟩,
            ⟨(some 46), .call 12 [.t 45], (some (44, true)), [], [0, 1, 2, 3], []⟩,
            ⟨(some 47), .un .not (.t 46), (some (44, true)), [], [0, 1, 2, 3, 4], []⟩,
            ⟨(some 48), .pick (.t 44) (.t 47) (.c (.bool false)), none, [], [0, 1, 2, 3, 4, 5], []⟩,
            ⟨(some 49), .mv (.t 48), none, [], [0, 1, 2, 3, 4, 5, 6], []⟩,
            ⟨(some 50), .mv (.t 4), (some (49, true)), [], [0, 1, 2, 3, 4, 5, 6, 7], []⟩,
            ⟨(some 51), .bin .eql (.t 50) (.c (.int .i64 0)), (some (49, true)), [], [0, 1, 2, 3, 4, 5, 6, 7, 8], []⟩,
            ⟨(some 52), .pick (.t 49) (.t 51) (.c (.bool false)), none, [], [0, 1, 2, 3, 4, 5, 6, 7, 8, 9], []⟩,
            ⟨(some 53), .mv (.t 52), none, [], [0, 1, 2, 3, 4, 5, 6, 7, 8, 9, 10], []⟩,
            ⟨(some 54), .fld (.t 3) 0, (some (53, true)), [], [0, 1, 2, 3, 4, 5, 6, 7, 8, 9, 10, 11], []⟩,
            ⟨(some 55), .load none (.t 54), (some (53, true)), [], [0, 1, 2, 3, 4, 5, 6, 7, 8, 9, 10, 11, 12], []⟩,
            ⟨(some 56), .bin .eql (.t 55) (.c (.int .i64 1)), (some (53, true)), [], [0, 1, 2, 3, 4, 5, 6, 7, 8, 9, 10, 11, 12, 13], []⟩,
            ⟨(some 57), .pick (.t 53) (.t 56) (.c (.bool false)), none, [], [0, 1, 2, 3, 4, 5, 6, 7, 8, 9, 10, 11, 12, 13, 14], []⟩,
            ⟨(some 58), .mv (.t 57), none, [], [0, 1, 2, 3, 4, 5, 6, 7, 8, 9, 10, 11, 12, 13, 14, 15], []⟩,
            ⟨(some 59), .fld (.t 3) 1, (some (58, true)), [], [0, 1, 2, 3, 4, 5, 6, 7, 8, 9, 10, 11, 12, 13, 14, 15, 16], []⟩,
            ⟨(some 60), .load none (.t 59), (some (58, true)), [], [0, 1, 2, 3, 4, 5, 6, 7, 8, 9, 10, 11, 12, 13, 14, 15, 16, 17], []⟩,
            ⟨(some 61), .bin .eql (.t 60) (.c (.int .i64 1)), (some (58, true)), [], [0, 1, 2, 3, 4, 5, 6, 7, 8, 9, 10, 11, 12, 13, 14, 15, 16, 17, 18], []⟩,
            ⟨(some 62), .pick (.t 58) (.t 61) (.c (.bool false)), none, [], [0, 1, 2, 3, 4, 5, 6, 7, 8, 9, 10, 11, 12, 13, 14, 15, 16, 17, 18, 19], []⟩,
            ⟨(some 63), .mv (.t 62), none, [], [0, 1, 2, 3, 4, 5, 6, 7, 8, 9, 10, 11, 12, 13, 14, 15, 16, 17, 18, 19, 20], []⟩,
            ⟨(some 64), .fld (.t 3) 2, (some (63, true)), [], [0, 1, 2, 3, 4, 5, 6, 7, 8, 9, 10, 11, 12, 13, 14, 15, 16, 17, 18, 19, 20, 21], []⟩,
            ⟨(some 65), .load none (.t 64), (some (63, true)), [], [0, 1, 2, 3, 4, 5, 6, 7, 8, 9, 10, 11, 12, 13, 14, 15, 16, 17, 18, 19, 20, 21, 22], []⟩,
            ⟨(some 66), .len false (.t 65), (some (63, true)), [], [0, 1, 2, 3, 4, 5, 6, 7, 8, 9, 10, 11, 12, 13, 14, 15, 16, 17, 18, 19, 20, 21, 22, 23], []⟩,
            ⟨(some 67), .bin .eql (.t 66) (.c (.int .i64 1)), (some (63, true)), [], [0, 1, 2, 3, 4, 5, 6, 7, 8, 9, 10, 11, 12, 13, 14, 15, 16, 17, 18, 19, 20, 21, 22, 23, 24], []⟩,
            ⟨(some 68), .pick (.t 63) (.t 67) (.c (.bool false)), none, [], [0, 1, 2, 3, 4, 5, 6, 7, 8, 9, 10, 11, 12, 13, 14, 15, 16, 17, 18, 19, 20, 21, 22, 23, 24, 25], []⟩,
            ⟨(some 69), .mv (.t 68), none, [], [0, 1, 2, 3, 4, 5, 6, 7, 8, 9, 10, 11, 12, 13, 14, 15, 16, 17, 18, 19, 20, 21, 22, 23, 24, 25, 26], []⟩,
            ⟨(some 70), .load (some 3) (.t 1), (some (69, true)), [], [0, 1, 2, 3, 4, 5, 6, 7, 8, 9, 10, 11, 12, 13, 14, 15, 16, 17, 18, 19, 20, 21, 22, 23, 24, 25, 26, 27], [71, 73]⟩,
            ⟨(some 71), .load (some 3) (.t 3), (some (69, true)), [], [0, 1, 2, 3, 4, 5, 6, 7, 8, 9, 10, 11, 12, 13, 14, 15, 16, 17, 18, 19, 20, 21, 22, 23, 24, 25, 26, 27], [70, 73]⟩,
            ⟨(some 72), .call 16 [.t 70, .t 71], (some (69, true)), [], [0, 1, 2, 3, 4, 5, 6, 7, 8, 9, 10, 11, 12, 13, 14, 15, 16, 17, 18, 19, 20, 21, 22, 23, 24, 25, 26, 27, 28, 29], [73]⟩,
            ⟨(some 73), .bslice 3 1 2 [.int .i64 0, .int .i64 0] [(0, 1, .c (.int .i64 (-1))), (1, 1, .c (.int .i64 0))], (some (69, true)), [], [0, 1, 2, 3, 4, 5, 6, 7, 8, 9, 10, 11, 12, 13, 14, 15, 16, 17, 18, 19, 20, 21, 22, 23, 24, 25, 26, 27], [70, 71, 72]⟩,
            ⟨(some 74), .call 15 [.t 72, .t 73], (some (69, true)), [], [0, 1, 2, 3, 4, 5, 6, 7, 8, 9, 10, 11, 12, 13, 14, 15, 16, 17, 18, 19, 20, 21, 22, 23, 24, 25, 26, 27, 28, 29, 30, 31], []⟩,
            ⟨(some 75), .pick (.t 69) (.t 74) (.c (.bool false)), none, [], [0, 1, 2, 3, 4, 5, 6, 7, 8, 9, 10, 11, 12, 13, 14, 15, 16, 17, 18, 19, 20, 21, 22, 23, 24, 25, 26, 27, 28, 29, 30, 31, 32], []⟩,
            ⟨(some 76), .mv (.t 75), none, [], [0, 1, 2, 3, 4, 5, 6, 7, 8, 9, 10, 11, 12, 13, 14, 15, 16, 17, 18, 19, 20, 21, 22, 23, 24, 25, 26, 27, 28, 29, 30, 31, 32, 33], []⟩,
            ⟨(some 77), .mv (.t 6), (some (76, true)), [], [0, 1, 2, 3, 4, 5, 6, 7, 8, 9, 10, 11, 12, 13, 14, 15, 16, 17, 18, 19, 20, 21, 22, 23, 24, 25, 26, 27, 28, 29, 30, 31, 32, 33, 34], []⟩,
            ⟨(some 78), .bin .eql (.t 77) (.c (.int .i64 11)), (some (76, true)), [], [0, 1, 2, 3, 4, 5, 6, 7, 8, 9, 10, 11, 12, 13, 14, 15, 16, 17, 18, 19, 20, 21, 22, 23, 24, 25, 26, 27, 28, 29, 30, 31, 32, 33, 34, 35], []⟩,
            ⟨(some 79), .pick (.t 76) (.t 78) (.c (.bool false)), none, [], [0, 1, 2, 3, 4, 5, 6, 7, 8, 9, 10, 11, 12, 13, 14, 15, 16, 17, 18, 19, 20, 21, 22, 23, 24, 25, 26, 27, 28, 29, 30, 31, 32, 33, 34, 35, 36], []⟩,
            ⟨(some 80), .mv (.t 79), none, [], [0, 1, 2, 3, 4, 5, 6, 7, 8, 9, 10, 11, 12, 13, 14, 15, 16, 17, 18, 19, 20, 21, 22, 23, 24, 25, 26, 27, 28, 29, 30, 31, 32, 33, 34, 35, 36, 37], []⟩,
            ⟨(some 81), .mv (.t 8), (some (80, true)), [], [0, 1, 2, 3, 4, 5, 6, 7, 8, 9, 10, 11, 12, 13, 14, 15, 16, 17, 18, 19, 20, 21, 22, 23, 24, 25, 26, 27, 28, 29, 30, 31, 32, 33, 34, 35, 36, 37, 38], []⟩,
            ⟨(some 82), .bin .eql (.t 81) (.c (.int .i64 5)), (some (80, true)), [], [0, 1, 2, 3, 4, 5, 6, 7, 8, 9, 10, 11, 12, 13, 14, 15, 16, 17, 18, 19, 20, 21, 22, 23, 24, 25, 26, 27, 28, 29, 30, 31, 32, 33, 34, 35, 36, 37, 38, 39], []⟩,
            ⟨(some 83), .pick (.t 80) (.t 82) (.c (.bool false)), none, [], [0, 1, 2, 3, 4, 5, 6, 7, 8, 9, 10, 11, 12, 13, 14, 15, 16, 17, 18, 19, 20, 21, 22, 23, 24, 25, 26, 27, 28, 29, 30, 31, 32, 33, 34, 35, 36, 37, 38, 39, 40], []⟩,
            ⟨(some 84), .mv (.t 83), none, [], [0, 1, 2, 3, 4, 5, 6, 7, 8, 9, 10, 11, 12, 13, 14, 15, 16, 17, 18, 19, 20, 21, 22, 23, 24, 25, 26, 27, 28, 29, 30, 31, 32, 33, 34, 35, 36, 37, 38, 39, 40, 41], []⟩,
            ⟨(some 85), .mv (.t 10), (some (84, true)), [], [0, 1, 2, 3, 4, 5, 6, 7, 8, 9, 10, 11, 12, 13, 14, 15, 16, 17, 18, 19, 20, 21, 22, 23, 24, 25, 26, 27, 28, 29, 30, 31, 32, 33, 34, 35, 36, 37, 38, 39, 40, 41, 42], []⟩,
            ⟨(some 86), .bin .eql (.t 85) (.c (.int .i64 0)), (some (84, true)), [], [0, 1, 2, 3, 4, 5, 6, 7, 8, 9, 10, 11, 12, 13, 14, 15, 16, 17, 18, 19, 20, 21, 22, 23, 24, 25, 26, 27, 28, 29, 30, 31, 32, 33, 34, 35, 36, 37, 38, 39, 40, 41, 42, 43], []⟩,
            ⟨(some 87), .pick (.t 84) (.t 86) (.c (.bool false)), none, [], [0, 1, 2, 3, 4, 5, 6, 7, 8, 9, 10, 11, 12, 13, 14, 15, 16, 17, 18, 19, 20, 21, 22, 23, 24, 25, 26, 27, 28, 29, 30, 31, 32, 33, 34, 35, 36, 37, 38, 39, 40, 41, 42, 43, 44], []⟩,
            ⟨(some 88), .mv (.t 87), none, [], [0, 1, 2, 3, 4, 5, 6, 7, 8, 9, 10, 11, 12, 13, 14, 15, 16, 17, 18, 19, 20, 21, 22, 23, 24, 25, 26, 27, 28, 29, 30, 31, 32, 33, 34, 35, 36, 37, 38, 39, 40, 41, 42, 43, 44, 45], []⟩,
            ⟨(some 89), .load (some 3) (.t 9), (some (88, true)), [], [0, 1, 2, 3, 4, 5, 6, 7, 8, 9, 10, 11, 12, 13, 14, 15, 16, 17, 18, 19, 20, 21, 22, 23, 24, 25, 26, 27, 28, 29, 30, 31, 32, 33, 34, 35, 36, 37, 38, 39, 40, 41, 42, 43, 44, 45, 46], [90]⟩,
            ⟨(some 90), .load (some 3) (.t 1), (some (88, true)), [], [0, 1, 2, 3, 4, 5, 6, 7, 8, 9, 10, 11, 12, 13, 14, 15, 16, 17, 18, 19, 20, 21, 22, 23, 24, 25, 26, 27, 28, 29, 30, 31, 32, 33, 34, 35, 36, 37, 38, 39, 40, 41, 42, 43, 44, 45, 46], [89]⟩,
            ⟨(some 91), .call 14 [.t 89, .t 90], (some (88, true)), [], [0, 1, 2, 3, 4, 5, 6, 7, 8, 9, 10, 11, 12, 13, 14, 15, 16, 17, 18, 19, 20, 21, 22, 23, 24, 25, 26, 27, 28, 29, 30, 31, 32, 33, 34, 35, 36, 37, 38, 39, 40, 41, 42, 43, 44, 45, 46, 47, 48], []⟩,
            ⟨(some 92), .pick (.t 88) (.t 91) (.c (.bool false)), none, [], [0, 1, 2, 3, 4, 5, 6, 7, 8, 9, 10, 11, 12, 13, 14, 15, 16, 17, 18, 19, 20, 21, 22, 23, 24, 25, 26, 27, 28, 29, 30, 31, 32, 33, 34, 35, 36, 37, 38, 39, 40, 41, 42, 43, 44, 45, 46, 47, 48, 49], []⟩,
            ⟨(some 93), .mv (.t 92), none, [], [0, 1, 2, 3, 4, 5, 6, 7, 8, 9, 10, 11, 12, 13, 14, 15, 16, 17, 18, 19, 20, 21, 22, 23, 24, 25, 26, 27, 28, 29, 30, 31, 32, 33, 34, 35, 36, 37, 38, 39, 40, 41, 42, 43, 44, 45, 46, 47, 48, 49, 50], []⟩,
            ⟨(some 94), .mv (.t 11), (some (93, true)), [], [0, 1, 2, 3, 4, 5, 6, 7, 8, 9, 10, 11, 12, 13, 14, 15, 16, 17, 18, 19, 20, 21, 22, 23, 24, 25, 26, 27, 28, 29, 30, 31, 32, 33, 34, 35, 36, 37, 38, 39, 40, 41, 42, 43, 44, 45, 46, 47, 48, 49, 50, 51], []⟩,
            ⟨(some 95), .len true (.t 94), (some (93, true)), [], [0, 1, 2, 3, 4, 5, 6, 7, 8, 9, 10, 11, 12, 13, 14, 15, 16, 17, 18, 19, 20, 21, 22, 23, 24, 25, 26, 27, 28, 29, 30, 31, 32, 33, 34, 35, 36, 37, 38, 39, 40, 41, 42, 43, 44, 45, 46, 47, 48, 49, 50, 51, 52], []⟩,
            ⟨(some 96), .bin .gtr (.t 95) (.c (.int .i64 39)), (some (93, true)), [], [0, 1, 2, 3, 4, 5, 6, 7, 8, 9, 10, 11, 12, 13, 14, 15, 16, 17, 18, 19, 20, 21, 22, 23, 24, 25, 26, 27, 28, 29, 30, 31, 32, 33, 34, 35, 36, 37, 38, 39, 40, 41, 42, 43, 44, 45, 46, 47, 48, 49, 50, 51, 52, 53], []⟩,
            ⟨(some 97), .pick (.t 93) (.t 96) (.c (.bool false)), none, [], [0, 1, 2, 3, 4, 5, 6, 7, 8, 9, 10, 11, 12, 13, 14, 15, 16, 17, 18, 19, 20, 21, 22, 23, 24, 25, 26, 27, 28, 29, 30, 31, 32, 33, 34, 35, 36, 37, 38, 39, 40, 41, 42, 43, 44, 45, 46, 47, 48, 49, 50, 51, 52, 53, 54], []⟩,
            ⟨(some 98), .mv (.t 97), none, [], [0, 1, 2, 3, 4, 5, 6, 7, 8, 9, 10, 11, 12, 13, 14, 15, 16, 17, 18, 19, 20, 21, 22, 23, 24, 25, 26, 27, 28, 29, 30, 31, 32, 33, 34, 35, 36, 37, 38, 39, 40, 41, 42, 43, 44, 45, 46, 47, 48, 49, 50, 51, 52, 53, 54, 55], []⟩,
            ⟨(some 99), .mv (.t 11), (some (98, true)), [], [0, 1, 2, 3, 4, 5, 6, 7, 8, 9, 10, 11, 12, 13, 14, 15, 16, 17, 18, 19, 20, 21, 22, 23, 24, 25, 26, 27, 28, 29, 30, 31, 32, 33, 34, 35, 36, 37, 38, 39, 40, 41, 42, 43, 44, 45, 46, 47, 48, 49, 50, 51, 52, 53, 54, 55, 56], []⟩,
            ⟨(some 100), .slcT (.t 99) none (some (.c (.int .i64 7))), (some (98, true)), [], [0, 1, 2, 3, 4, 5, 6, 7, 8, 9, 10, 11, 12, 13, 14, 15, 16, 17, 18, 19, 20, 21, 22, 23, 24, 25, 26, 27, 28, 29, 30, 31, 32, 33, 34, 35, 36, 37, 38, 39, 40, 41, 42, 43, 44, 45, 46, 47, 48, 49, 50, 51, 52, 53, 54, 55, 56, 57], []⟩,
            ⟨(some 101), .bin .eql (.t 100) (.c (.str [99, 117, 115, 116, 111, 100, 121])), (some (98, true)), [], [0, 1, 2, 3, 4, 5, 6, 7, 8, 9, 10, 11, 12, 13, 14, 15, 16, 17, 18, 19, 20, 21, 22, 23, 24, 25, 26, 27, 28, 29, 30, 31, 32, 33, 34, 35, 36, 37, 38, 39, 40, 41, 42, 43, 44, 45, 46, 47, 48, 49, 50, 51, 52, 53, 54, 55, 56, 57, 58], []⟩,
            ⟨(some 102), .pick (.t 98) (.t 101) (.c (.bool false)), none, [], [0, 1, 2, 3, 4, 5, 6, 7, 8, 9, 10, 11, 12, 13, 14, 15, 16, 17, 18, 19, 20, 21, 22, 23, 24, 25, 26, 27, 28, 29, 30, 31, 32, 33, 34, 35, 36, 37, 38, 39, 40, 41, 42, 43, 44, 45, 46, 47, 48, 49, 50, 51, 52, 53, 54, 55, 56, 57, 58, 59], []⟩,
            ⟨(some 103), .mv (.t 102), none, [], [0, 1, 2, 3, 4, 5, 6, 7, 8, 9, 10, 11, 12, 13, 14, 15, 16, 17, 18, 19, 20, 21, 22, 23, 24, 25, 26, 27, 28, 29, 30, 31, 32, 33, 34, 35, 36, 37, 38, 39, 40, 41, 42, 43, 44, 45, 46, 47, 48, 49, 50, 51, 52, 53, 54, 55, 56, 57, 58, 59, 60], []⟩,
            ⟨(some 104), .load (some 3) (.t 1), (some (103, true)), [], [0, 1, 2, 3, 4, 5, 6, 7, 8, 9, 10, 11, 12, 13, 14, 15, 16, 17, 18, 19, 20, 21, 22, 23, 24, 25, 26, 27, 28, 29, 30, 31, 32, 33, 34, 35, 36, 37, 38, 39, 40, 41, 42, 43, 44, 45, 46, 47, 48, 49, 50, 51, 52, 53, 54, 55, 56, 57, 58, 59, 60, 61], [106]⟩,
            ⟨(some 105), .call 20 [.t 104], (some (103, true)), [], [0, 1, 2, 3, 4, 5, 6, 7, 8, 9, 10, 11, 12, 13, 14, 15, 16, 17, 18, 19, 20, 21, 22, 23, 24, 25, 26, 27, 28, 29, 30, 31, 32, 33, 34, 35, 36, 37, 38, 39, 40, 41, 42, 43, 44, 45, 46, 47, 48, 49, 50, 51, 52, 53, 54, 55, 56, 57, 58, 59, 60, 61, 62], [106]⟩,
            ⟨(some 106), .load (some 3) (.t 3), (some (103, true)), [1, 2, 3, 4, 6, 8, 9, 10, 11, 42, 43, 44, 45, 46, 47, 48, 49, 50, 51, 52, 53, 54, 55, 56, 57, 58, 59, 60, 61, 62, 63, 64, 65, 66, 67, 68, 69, 70, 71, 72, 73, 74, 75, 76, 77, 78, 79, 80, 81, 82, 83, 84, 85, 86, 87, 88, 89, 90, 91, 92, 93, 94, 95, 96, 97, 98, 99, 100, 101, 102, 104], [0, 1, 2, 3, 4, 5, 6, 7, 8, 9, 10, 11, 12, 13, 14, 15, 16, 17, 18, 19, 20, 21, 22, 23, 24, 25, 26, 27, 28, 29, 30, 31, 32, 33, 34, 35, 36, 37, 38, 39, 40, 41, 42, 43, 44, 45, 46, 47, 48, 49, 50, 51, 52, 53, 54, 55, 56, 57, 58, 59, 60, 61], [104, 105]⟩,
            ⟨(some 107), .call 20 [.t 106], (some (103, true)), [106], [0, 1, 2, 3, 4, 5, 6, 7, 8, 9, 10, 11, 12, 13, 14, 15, 16, 17, 18, 19, 20, 21, 22, 23, 24, 25, 26, 27, 28, 29, 30, 31, 32, 33, 34, 35, 36, 37, 38, 39, 40, 41, 42, 43, 44, 45, 46, 47, 48, 49, 50, 51, 52, 53, 54, 55, 56, 57, 58, 59, 60, 61, 62, 63, 64], []⟩,
            ⟨(some 108), .eqv true [.i .u8, .i .u8, .i .u8, .i .u8, .i .u8, .i .u8, .i .u8, .i .u8, .i .u8, .i .u8, .i .u8, .i .u8, .i .u8, .i .u8, .i .u8, .i .u8] (.t 105) (.t 107), (some (103, true)), [105, 107], [0, 1, 2, 3, 4, 5, 6, 7, 8, 9, 10, 11, 12, 13, 14, 15, 16, 17, 18, 19, 20, 21, 22, 23, 24, 25, 26, 27, 28, 29, 30, 31, 32, 33, 34, 35, 36, 37, 38, 39, 40, 41, 42, 43, 44, 45, 46, 47, 48, 49, 50, 51, 52, 53, 54, 55, 56, 57, 58, 59, 60, 61, 62, 63, 64, 65], []⟩,
            ⟨(some 109), .pick (.t 103) (.t 108) (.c (.bool false)), none, [103, 108], [0, 1, 2, 3, 4, 5, 6, 7, 8, 9, 10, 11, 12, 13, 14, 15, 16, 17, 18, 19, 20, 21, 22, 23, 24, 25, 26, 27, 28, 29, 30, 31, 32, 33, 34, 35, 36, 37, 38, 39, 40, 41, 42, 43, 44, 45, 46, 47, 48, 49, 50, 51, 52, 53, 54, 55, 56, 57, 58, 59, 60, 61, 62, 63, 64, 65, 66], []⟩,
            ⟨(some 0), .mv (.t 109), none, [109], [0, 1, 2, 3, 4, 5, 6, 7, 8, 9, 10, 11, 12, 13, 14, 15, 16, 17, 18, 19, 20, 21, 22, 23, 24, 25, 26, 27, 28, 29, 30, 31, 32, 33, 34, 35, 36, 37, 38, 39, 40, 41, 42, 43, 44, 45, 46, 47, 48, 49, 50, 51, 52, 53, 54, 55, 56, 57, 58, 59, 60, 61, 62, 63, 64, 65, 66, 67], []⟩])
           (.ret))))))))))⟩
theorem chk9 : chkF Tryd.prog 9 sf9 = true := by kernel_rfl
/-- custody/custodian.Replace -/
def sf10 : SF := ⟨26, [.c 6 (some 3), .t 7],
 .seq (.reg [⟨(some 3), .box 24 (.t 0), none, [0], [], []⟩,
   ⟨(some 6), .new 24 [.int .i64 0, .int .i64 0, .val (.slice none 0 0)], none, [], [], []⟩,
   ⟨(some 7), .mv (.c (.int .i64 0)), none, [7], [], []⟩])
  (.seq (.regD 8 [⟨(some 9), .fld (.t 3) 0, none, [], [], [8, 12, 13, 14]⟩,
    ⟨(some 10), .load none (.t 9), none, [], [0], [8, 12, 13, 14]⟩,
    ⟨(some 11), .bin .add (.t 10) (.c (.int .i64 1)), none, [], [0, 1], [8, 12, 13, 14]⟩,
    ⟨(some 12), .mv (.t 1), none, [], [], [8, 9, 10, 11, 13, 14]⟩,
    ⟨(some 13), .mv (.t 2), none, [], [], [8, 9, 10, 11, 12]⟩,
    ⟨(some 14), .call 29 [.t 13], none, [], [4], [8, 9, 10, 11, 12]⟩,
    ⟨(some 15), .build [.int .i64 0, .int .i64 0, .val (.slice none 0 0)] [(0, 1, .t 11), (1, 1, .t 12), (2, 1, .t 14)], none, [], [0, 1, 2, 3, 4, 5], [8]⟩,
    ⟨(some 8), .new 24 [.int .i64 0, .int .i64 0, .val (.slice none 0 0)], none, [1, 2, 9, 10, 11, 12, 13, 14], [], [9, 10, 11, 12, 13, 14, 15]⟩,
    ⟨none, .store 3 (.t 8) (.t 15), none, [15], [0, 1, 2, 3, 4, 5, 6, 7], []⟩])
   (.seq (.seq (.reg [⟨(some 16), .load (some 3) (.t 3), none, [3], [], []⟩,
      ⟨(some 17), .call 12 [.t 16], none, [16], [], []⟩,
      ⟨(some 18), .un .not (.t 17), none, [17], [], []⟩,
      ⟨(some 19), .mv (.t 18), none, [18], [], []⟩,
      ⟨(some 20), .load (some 3) (.t 8), (some (19, false)), [], [], []⟩,
      ⟨(some 21), .call 12 [.t 20], (some (19, false)), [20], [], []⟩,
      ⟨(some 22), .un .not (.t 21), (some (19, false)), [21], [], []⟩,
      ⟨(some 23), .pick (.t 19) (.c (.bool true)) (.t 22), none, [19, 22], [], []⟩])
     (.cond (.t 23) (.seq (.reg [⟨(some 24), .build [.int .i64 0, .int .i64 0, .val (.slice none 0 0)] [], none, [], [], []⟩,
        ⟨none, .store 3 (.t 6) (.t 24), none, [24], [], []⟩,
        ⟨(some 7), .mv (.c (.int .i64 1)), none, [], [], []⟩])
       (.ret))
      (.skip)))
    (.seq (.reg [⟨(some 25), .load (some 3) (.t 8), none, [8], [], []⟩,
      ⟨none, .store 3 (.t 6) (.t 25), none, [25], [], []⟩,
      ⟨(some 7), .mv (.c (.int .i64 0)), none, [], [], []⟩])
     (.ret))))⟩
theorem chk10 : chkF Tryd.prog 10 sf10 = true := by kernel_rfl
/-- custody/custodian.Valid -/
def sf12 : SF := ⟨82, [.t 2],
 .seq (.reg [⟨(some 1), .box 24 (.t 0), none, [0], [], []⟩,
   ⟨(some 2), .mv (.c (.bool false)), none, [2], [], []⟩])
  (.seq (.reg [⟨(some 8), .mkmap none, none, [], [], []⟩,
    ⟨(some 9), .mkmap (some 16), none, [], [], []⟩,
    ⟨(some 3), .mv (.t 8), none, [8], [], []⟩,
    ⟨(some 4), .mv (.t 9), none, [9], [], []⟩])
   (.seq (.seq (.reg [⟨(some 10), .fld (.t 1) 2, none, [], [], []⟩,
      ⟨(some 11), .load none (.t 10), none, [10], [], []⟩,
      ⟨(some 12), .len false (.t 11), none, [], [], []⟩,
      ⟨(some 13), .mv (.c (.int .i64 0)), none, [], [], []⟩])
     (.block 0 (.loop (.seq (.reg [⟨(some 14), .bin .lss (.t 13) (.t 12), none, [], [], []⟩])
        (.seq (.cond (.t 14) (.skip)
          (.exit 0))
         (.seq (.block 1 (.seq (.reg [⟨(some 15), .idxS (.t 11) (.t 13) 18, none, [], [], []⟩,
             ⟨(some 16), .load (some 18) (.t 15), none, [15], [], []⟩,
             ⟨(some 6), .new 47 [.str [], .int .u8 0, .int .u8 0, .int .u8 0, .int .u8 0, .int .u8 0, .int .u8 0, .int .u8 0, .int .u8 0, .int .u8 0, .int .u8 0, .int .u8 0, .int .u8 0, .int .u8 0, .int .u8 0, .int .u8 0, .int .u8 0, .int .i64 0], none, [], [], []⟩,
             ⟨none, .store 18 (.t 6) (.t 16), none, [16], [], []⟩])
            (.seq (.seq (.reg [⟨(some 17), .fld (.t 6) 0, none, [], [], []⟩,
               ⟨(some 18), .load none (.t 17), none, [17], [], []⟩,
               ⟨(some 19), .len true (.t 18), none, [18], [], []⟩,
               ⟨(some 20), .bin .lss (.t 19) (.c (.int .i64 1)), none, [19], [], []⟩,
               ⟨(some 21), .mv (.t 20), none, [20], [], []⟩,
               ⟨(some 22), .fld (.t 6) 0, (some (21, false)), [], [], []⟩,
               ⟨(some 23), .load none (.t 22), (some (21, false)), [22], [], []⟩,
               ⟨(some 24), .len true (.t 23), (some (21, false)), [23], [], []⟩,
               ⟨(some 25), .bin .gtr (.t 24) (.c (.int .i64 12)), (some (21, false)), [24], [], []⟩,
               ⟨(some 26), .pick (.t 21) (.c (.bool true)) (.t 25), none, [21, 25], [], []⟩,
               ⟨(some 27), .mv (.t 26), none, [26], [], []⟩,
               ⟨(some 28), .fld (.t 6) 17, (some (27, false)), [], [], []⟩,
               ⟨(some 29), .load none (.t 28), (some (27, false)), [28], [], []⟩,
               ⟨(some 30), .bin .lss (.t 29) (.c (.int .i64 0)), (some (27, false)), [29], [], []⟩,
               ⟨(some 31), .pick (.t 27) (.c (.bool true)) (.t 30), none, [27, 30], [], []⟩,
               ⟨(some 32), .mv (.t 31), none, [31], [], []⟩,
               ⟨(some 33), .fld (.t 6) 17, (some (32, false)), [], [], []⟩,
               ⟨(some 34), .load none (.t 33), (some (32, false)), [33], [], []⟩,
               ⟨(some 35), .bin .gtr (.t 34) (.c (.int .i64 6)), (some (32, false)), [34], [], []⟩,
               ⟨(some 36), .pick (.t 32) (.c (.bool true)) (.t 35), none, [32, 35], [], []⟩])
              (.cond (.t 36) (.seq (.reg [⟨(some 2), .mv (.c (.bool false)), none, [], [], []⟩])
                (.ret))
               (.skip)))
             (.regW 7 [⟨(some 37), .mv (.t 3), none, [], [], [38, 39, 40, 41, 42]⟩,
              ⟨(some 38), .fld (.t 6) 0, none, [], [], [37, 40, 41, 42]⟩,
              ⟨(some 39), .load none (.t 38), none, [], [1], [37, 40, 41, 42]⟩,
              ⟨(some 40), .mv (.t 4), none, [], [], [37, 38, 39, 41, 42]⟩,
              ⟨(some 41), .fld (.t 6) 1, none, [], [], [37, 38, 39, 40]⟩,
              ⟨(some 42), .load (some 16) (.t 41), none, [], [4], [37, 38, 39, 40]⟩,
              ⟨none, .mput none (.t 37) (.t 39), none, [6, 37, 38, 39, 41], [0, 1, 2], [40, 41, 42]⟩,
              ⟨none, .mput (some 16) (.t 40) (.t 42), none, [40, 42], [0, 1, 2, 3, 4, 5, 6], []⟩]))))
          (.reg [⟨(some 43), .bin .add (.t 13) (.c (.int .i64 1)), none, [13], [], []⟩,
           ⟨(some 13), .mv (.t 43), none, [43], [], []⟩])))))))
    (.seq (.reg [⟨(some 44), .fld (.t 1) 2, none, [], [], []⟩,
      ⟨(some 45), .load none (.t 44), none, [44], [], []⟩,
      ⟨(some 46), .len false (.t 45), none, [45], [], []⟩,
      ⟨(some 7), .mv (.t 46), none, [46], [], []⟩])
     (.seq (.reg [⟨(some 47), .mv (.t 3), none, [3], [], []⟩,
       ⟨(some 48), .mlen (.t 47), none, [47], [], []⟩,
       ⟨(some 49), .mv (.t 7), none, [], [], []⟩,
       ⟨(some 50), .bin .eql (.t 48) (.t 49), none, [48, 49], [], []⟩,
       ⟨(some 51), .mv (.t 50), none, [50], [], []⟩,
       ⟨(some 52), .mv (.t 4), (some (51, true)), [4], [], []⟩,
       ⟨(some 53), .mlen (.t 52), (some (51, true)), [52], [], []⟩,
       ⟨(some 54), .mv (.t 7), (some (51, true)), [], [], []⟩,
       ⟨(some 55), .bin .eql (.t 53) (.t 54), (some (51, true)), [53, 54], [], []⟩,
       ⟨(some 56), .pick (.t 51) (.t 55) (.c (.bool false)), none, [51, 55], [], []⟩,
       ⟨(some 57), .mv (.t 56), none, [56], [], []⟩,
       ⟨(some 58), .fld (.t 1) 1, (some (57, true)), [], [], []⟩,
       ⟨(some 59), .load none (.t 58), (some (57, true)), [58], [], []⟩,
       ⟨(some 60), .bin .leq (.c (.int .i64 1)) (.t 59), (some (57, true)), [59], [], []⟩,
       ⟨(some 61), .pick (.t 57) (.t 60) (.c (.bool false)), none, [57, 60], [], []⟩,
       ⟨(some 62), .mv (.t 61), none, [61], [], []⟩,
       ⟨(some 63), .fld (.t 1) 1, (some (62, true)), [], [], []⟩,
       ⟨(some 64), .load none (.t 63), (some (62, true)), [63], [], []⟩,
       ⟨(some 65), .mv (.t 7), (some (62, true)), [], [], []⟩,
       ⟨(some 66), .bin .leq (.t 64) (.t 65), (some (62, true)), [64, 65], [], []⟩,
       ⟨(some 67), .pick (.t 62) (.t 66) (.c (.bool false)), none, [62, 66], [], []⟩,
       ⟨(some 68), .mv (.t 67), none, [67], [], []⟩,
       ⟨(some 69), .mv (.t 7), (some (68, true)), [7], [], []⟩,
       ⟨(some 70), .bin .leq (.t 69) (.c (.int .i64 16)), (some (68, true)), [69], [], []⟩,
       ⟨(some 71), .pick (.t 68) (.t 70) (.c (.bool false)), none, [68, 70], [], []⟩,
       ⟨(some 72), .mv (.t 71), none, [71], [], []⟩,
       ⟨(some 73), .fld (.t 1) 0, (some (72, true)), [], [], []⟩,
       ⟨(some 74), .load none (.t 73), (some (72, true)), [73], [], []⟩,
       ⟨(some 75), .bin .leq (.c (.int .i64 0)) (.t 74), (some (72, true)), [74], [], []⟩,
       ⟨(some 76), .pick (.t 72) (.t 75) (.c (.bool false)), none, [72, 75], [], []⟩,
       ⟨(some 77), .mv (.t 76), none, [76], [], []⟩,
       ⟨(some 78), .fld (.t 1) 0, (some (77, true)), [1], [], []⟩,
       ⟨(some 79), .load none (.t 78), (some (77, true)), [78], [], []⟩,
       ⟨(some 80), .bin .leq (.t 79) (.c (.int .i64 2147483646)), (some (77, true)), [79], [], []⟩,
       ⟨(some 81), .pick (.t 77) (.t 80) (.c (.bool false)), none, [77, 80], [], []⟩,
       ⟨(some 2), .mv (.t 81), none, [81], [], []⟩])
      (.ret)))))⟩
theorem chk12 : chkF Tryd.prog 12 sf12 = true := by kernel_rfl
/-- custody/custodyref30.Same -/
def sf14 : SF := ⟨45, [.t 4],
 .seq (.reg [⟨(some 2), .box 24 (.t 0), none, [0], [], []⟩,
   ⟨(some 3), .box 24 (.t 1), none, [1], [], []⟩,
   ⟨(some 4), .mv (.c (.bool false)), none, [4], [], []⟩])
  (.seq (.seq (.reg [⟨(some 6), .fld (.t 2) 0, none, [], [], []⟩,
     ⟨(some 7), .load none (.t 6), none, [6], [], []⟩,
     ⟨(some 8), .fld (.t 3) 0, none, [], [], []⟩,
     ⟨(some 9), .load none (.t 8), none, [8], [], []⟩,
     ⟨(some 10), .bin .neq (.t 7) (.t 9), none, [7, 9], [], []⟩,
     ⟨(some 11), .mv (.t 10), none, [10], [], []⟩,
     ⟨(some 12), .fld (.t 2) 1, (some (11, false)), [], [], []⟩,
     ⟨(some 13), .load none (.t 12), (some (11, false)), [12], [], []⟩,
     ⟨(some 14), .fld (.t 3) 1, (some (11, false)), [], [], []⟩,
     ⟨(some 15), .load none (.t 14), (some (11, false)), [14], [], []⟩,
     ⟨(some 16), .bin .neq (.t 13) (.t 15), (some (11, false)), [13, 15], [], []⟩,
     ⟨(some 17), .pick (.t 11) (.c (.bool true)) (.t 16), none, [11, 16], [], []⟩,
     ⟨(some 18), .mv (.t 17), none, [17], [], []⟩,
     ⟨(some 19), .fld (.t 2) 2, (some (18, false)), [], [], []⟩,
     ⟨(some 20), .load none (.t 19), (some (18, false)), [19], [], []⟩,
     ⟨(some 21), .len false (.t 20), (some (18, false)), [20], [], []⟩,
     ⟨(some 22), .fld (.t 3) 2, (some (18, false)), [], [], []⟩,
     ⟨(some 23), .load none (.t 22), (some (18, false)), [22], [], []⟩,
     ⟨(some 24), .len false (.t 23), (some (18, false)), [23], [], []⟩,
     ⟨(some 25), .bin .neq (.t 21) (.t 24), (some (18, false)), [21, 24], [], []⟩,
     ⟨(some 26), .pick (.t 18) (.c (.bool true)) (.t 25), none, [18, 25], [], []⟩])
    (.cond (.t 26) (.seq (.reg [⟨(some 4), .mv (.c (.bool false)), none, [], [], []⟩])
      (.ret))
     (.skip)))
   (.seq (.seq (.reg [⟨(some 5), .mv (.c (.int .i64 0)), none, [], [], []⟩])
     (.block 0 (.loop (.seq (.seq (.reg [⟨(some 27), .mv (.t 5), none, [], [], []⟩,
          ⟨(some 28), .fld (.t 2) 2, none, [], [], []⟩,
          ⟨(some 29), .load none (.t 28), none, [28], [], []⟩,
          ⟨(some 30), .len false (.t 29), none, [29], [], []⟩,
          ⟨(some 31), .bin .lss (.t 27) (.t 30), none, [27, 30], [], []⟩])
         (.cond (.t 31) (.skip)
          (.exit 0)))
        (.seq (.block 1 (.seq (.regP 10 [⟨(some 34), .fld (.t 2) 2, none, [], [], [36, 39, 40, 41, 42, 43]⟩,
            ⟨(some 35), .load none (.t 34), none, [], [0], [36, 39, 40, 41, 42, 43]⟩,
            ⟨(some 36), .mv (.t 5), none, [], [], [34, 35, 39, 40, 41, 42, 43]⟩,
            ⟨(some 37), .idxS (.t 35) (.t 36) 18, none, [], [0, 1, 2], [39, 40, 41, 42, 43]⟩,
            ⟨(some 38), .load (some 18) (.t 37), none, [], [0, 1, 2, 3], [39, 40, 41, 42, 43]⟩,
            ⟨(some 39), .fld (.t 3) 2, none, [], [], [34, 35, 36, 37, 38, 41]⟩,
            ⟨(some 40), .load none (.t 39), none, [], [5], [34, 35, 36, 37, 38, 41]⟩,
            ⟨(some 41), .mv (.t 5), none, [], [], [34, 35, 36, 37, 38, 39, 40]⟩,
            ⟨(some 42), .idxS (.t 40) (.t 41) 18, none, [], [5, 6, 7], [34, 35, 36, 37, 38]⟩,
            ⟨(some 43), .load (some 18) (.t 42), none, [34, 35, 36, 37, 39, 40, 41, 42], [5, 6, 7, 8], [34, 35, 36, 37, 38]⟩,
            ⟨(some 44), .eqv true [.s, .i .u8, .i .u8, .i .u8, .i .u8, .i .u8, .i .u8, .i .u8, .i .u8, .i .u8, .i .u8, .i .u8, .i .u8, .i .u8, .i .u8, .i .u8, .i .u8, .i .i64] (.t 38) (.t 43), none, [38, 43], [0, 1, 2, 3, 4, 5, 6, 7, 8, 9], []⟩])
           (.cond (.t 44) (.seq (.reg [⟨(some 4), .mv (.c (.bool false)), none, [], [], []⟩])
             (.ret))
            (.skip))))
         (.reg [⟨(some 32), .mv (.t 5), none, [5], [], []⟩,
          ⟨(some 33), .bin .add (.t 32) (.c (.int .i64 1)), none, [32], [], []⟩,
          ⟨(some 5), .mv (.t 33), none, [33], [], []⟩]))))))
    (.seq (.reg [⟨(some 4), .mv (.c (.bool true)), none, [], [], []⟩])
     (.ret))))⟩
theorem chk14 : chkF Tryd.prog 14 sf14 = true := by kernel_rfl
/-- custody/custodyref30.SameInts -/
def sf15 : SF := ⟨26, [.t 4],
 .seq (.reg [⟨(some 4), .mv (.c (.bool false)), none, [4], [], []⟩])
  (.seq (.seq (.reg [⟨(some 6), .mv (.t 0), none, [], [], []⟩,
     ⟨(some 7), .len false (.t 6), none, [6], [], []⟩,
     ⟨(some 8), .mv (.t 1), none, [], [], []⟩,
     ⟨(some 9), .len false (.t 8), none, [8], [], []⟩,
     ⟨(some 10), .bin .neq (.t 7) (.t 9), none, [7, 9], [], []⟩])
    (.cond (.t 10) (.seq (.reg [⟨(some 4), .mv (.c (.bool false)), none, [], [], []⟩])
      (.ret))
     (.skip)))
   (.seq (.seq (.reg [⟨(some 5), .mv (.c (.int .i64 0)), none, [], [], []⟩])
     (.block 0 (.loop (.seq (.seq (.reg [⟨(some 11), .mv (.t 5), none, [], [], []⟩,
          ⟨(some 12), .mv (.t 0), none, [], [], []⟩,
          ⟨(some 13), .len false (.t 12), none, [12], [], []⟩,
          ⟨(some 14), .bin .lss (.t 11) (.t 13), none, [11, 13], [], []⟩])
         (.cond (.t 14) (.skip)
          (.exit 0)))
        (.seq (.block 1 (.seq (.regP 8 [⟨(some 17), .mv (.t 0), none, [], [], [18, 21, 22, 23, 24]⟩,
            ⟨(some 18), .mv (.t 5), none, [], [], [17, 21, 22, 23, 24]⟩,
            ⟨(some 19), .idxS (.t 17) (.t 18) 1, none, [], [0, 1], [21, 22, 23, 24]⟩,
            ⟨(some 20), .load none (.t 19), none, [], [0, 1, 2], [21, 22, 23, 24]⟩,
            ⟨(some 21), .mv (.t 1), none, [], [], [17, 18, 19, 20, 22]⟩,
            ⟨(some 22), .mv (.t 5), none, [], [], [17, 18, 19, 20, 21]⟩,
            ⟨(some 23), .idxS (.t 21) (.t 22) 1, none, [], [4, 5], [17, 18, 19, 20]⟩,
            ⟨(some 24), .load none (.t 23), none, [17, 18, 19, 21, 22, 23], [4, 5, 6], [17, 18, 19, 20]⟩,
            ⟨(some 25), .bin .neq (.t 20) (.t 24), none, [20, 24], [0, 1, 2, 3, 4, 5, 6, 7], []⟩])
           (.cond (.t 25) (.seq (.reg [⟨(some 4), .mv (.c (.bool false)), none, [], [], []⟩])
             (.ret))
            (.skip))))
         (.reg [⟨(some 15), .mv (.t 5), none, [5], [], []⟩,
          ⟨(some 16), .bin .add (.t 15) (.c (.int .i64 1)), none, [15], [], []⟩,
          ⟨(some 5), .mv (.t 16), none, [16], [], []⟩]))))))
    (.seq (.reg [⟨(some 4), .mv (.c (.bool true)), none, [], [], []⟩])
     (.ret))))⟩
theorem chk15 : chkF Tryd.prog 15 sf15 = true := by kernel_rfl
/-- custody/custodian.Kept -/
def sf16 : SF := ⟨23, [.t 4],
 .seq (.reg [⟨(some 2), .box 24 (.t 0), none, [0], [], []⟩,
   ⟨(some 3), .box 24 (.t 1), none, [1], [], []⟩,
   ⟨(some 4), .mv (.c (.val (.slice none 0 0))), none, [], [], []⟩])
  (.seq (.seq (.reg [⟨(some 7), .fld (.t 2) 2, none, [2], [], []⟩,
     ⟨(some 8), .load none (.t 7), none, [7], [], []⟩,
     ⟨(some 9), .len false (.t 8), none, [], [], []⟩,
     ⟨(some 10), .mv (.c (.int .i64 0)), none, [], [], []⟩])
    (.block 0 (.loop (.seq (.reg [⟨(some 11), .bin .lss (.t 10) (.t 9), none, [], [], []⟩])
       (.seq (.cond (.t 11) (.skip)
         (.exit 0))
        (.seq (.block 1 (.seq (.reg [⟨(some 12), .idxS (.t 8) (.t 10) 18, none, [], [], []⟩,
            ⟨(some 13), .load (some 18) (.t 12), none, [12], [], []⟩,
            ⟨(some 6), .new 47 [.str [], .int .u8 0, .int .u8 0, .int .u8 0, .int .u8 0, .int .u8 0, .int .u8 0, .int .u8 0, .int .u8 0, .int .u8 0, .int .u8 0, .int .u8 0, .int .u8 0, .int .u8 0, .int .u8 0, .int .u8 0, .int .u8 0, .int .i64 0], none, [], [], []⟩,
            ⟨none, .store 18 (.t 6) (.t 13), none, [13], [], []⟩])
           (.reg [⟨(some 14), .mv (.t 4), none, [4], [], []⟩,
            ⟨(some 15), .fld (.t 3) 2, none, [], [], []⟩,
            ⟨(some 16), .load none (.t 15), none, [15], [], []⟩,
            ⟨(some 17), .load (some 18) (.t 6), none, [6], [], []⟩,
            ⟨(some 18), .call 30 [.t 16, .t 17], none, [16, 17], [], []⟩,
            ⟨(some 19), .bslice 3 1 1 [.int .i64 0] [(0, 1, .t 18)], none, [18], [], []⟩,
            ⟨(some 20), .app 3 1 8 (.t 14) (.t 19), none, [14, 19], [], []⟩,
            ⟨(some 4), .mv (.t 20), none, [20], [], []⟩])))
         (.reg [⟨(some 21), .bin .add (.t 10) (.c (.int .i64 1)), none, [10], [], []⟩,
          ⟨(some 10), .mv (.t 21), none, [21], [], []⟩])))))))
   (.seq (.reg [⟨(some 22), .mv (.t 4), none, [4], [], []⟩,
     ⟨(some 4), .mv (.t 22), none, [22], [], []⟩])
    (.ret)))⟩
theorem chk16 : chkF Tryd.prog 16 sf16 = true := by kernel_rfl
/-- custody/custodian.Encode -/
def sf18 : SF := ⟨36, [.t 2],
 .seq (.reg [⟨(some 1), .box 24 (.t 0), none, [0], [], []⟩,
   ⟨(some 2), .mv (.c (.str [])), none, [2], [], []⟩])
  (.seq (.reg [⟨(some 6), .fld (.t 1) 0, none, [], [], []⟩,
    ⟨(some 7), .load none (.t 6), none, [6], [], []⟩,
    ⟨(some 8), .fld (.t 1) 1, none, [], [], []⟩,
    ⟨(some 9), .load none (.t 8), none, [8], [], []⟩,
    ⟨(some 10), .fld (.t 1) 2, none, [], [], []⟩,
    ⟨(some 11), .load none (.t 10), none, [10], [], []⟩,
    ⟨(some 12), .len false (.t 11), none, [11], [], []⟩,
    ⟨(some 13), .bslice 3 1 3 [.int .i64 0, .int .i64 0, .int .i64 0] [(0, 1, .t 7), (1, 1, .t 9), (2, 1, .t 12)], none, [7, 9, 12], [], []⟩,
    ⟨(some 14), .call 31 [.t 13], none, [13], [], []⟩,
    ⟨(some 3), .mv (.t 14), none, [14], [], []⟩])
   (.seq (.seq (.reg [⟨(some 15), .fld (.t 1) 2, none, [1], [], []⟩,
      ⟨(some 16), .load none (.t 15), none, [15], [], []⟩,
      ⟨(some 17), .len false (.t 16), none, [], [], []⟩,
      ⟨(some 18), .mv (.c (.int .i64 0)), none, [], [], []⟩])
     (.block 0 (.loop (.seq (.reg [⟨(some 19), .bin .lss (.t 18) (.t 17), none, [], [], []⟩])
        (.seq (.cond (.t 19) (.skip)
          (.exit 0))
         (.seq (.block 1 (.seq (.reg [⟨(some 20), .idxS (.t 16) (.t 18) 18, none, [], [], []⟩,
             ⟨(some 21), .load (some 18) (.t 20), none, [20], [], []⟩,
             ⟨(some 5), .new 47 [.str [], .int .u8 0, .int .u8 0, .int .u8 0, .int .u8 0, .int .u8 0, .int .u8 0, .int .u8 0, .int .u8 0, .int .u8 0, .int .u8 0, .int .u8 0, .int .u8 0, .int .u8 0, .int .u8 0, .int .u8 0, .int .u8 0, .int .i64 0], none, [], [], []⟩,
             ⟨none, .store 18 (.t 5) (.t 21), none, [21], [], []⟩])
            (.regD 9 [⟨(some 22), .mv (.t 3), none, [], [], [23, 24, 25, 26, 27, 28, 29, 30]⟩,
             ⟨(some 23), .fld (.t 5) 0, none, [], [], [22, 26, 27, 28, 29]⟩,
             ⟨(some 24), .load none (.t 23), none, [], [1], [22, 26, 27, 28, 29]⟩,
             ⟨(some 25), .call 33 [.t 24], none, [], [1, 2], [22, 26, 27, 28, 29]⟩,
             ⟨(some 26), .fld (.t 5) 1, none, [], [], [22, 23, 24, 25, 28, 29, 30]⟩,
             ⟨(some 27), .slcA 16 1 (.t 26) none none, none, [], [4], [22, 23, 24, 25, 28, 29, 30]⟩,
             ⟨(some 28), .fld (.t 5) 17, none, [], [], [22, 23, 24, 25, 26, 27]⟩,
             ⟨(some 29), .load none (.t 28), none, [], [6], [22, 23, 24, 25, 26, 27]⟩,
             ⟨(some 30), .call 34 [.t 29], none, [3, 5, 23, 24, 26, 28, 29], [1, 2, 3, 6, 7], [22, 26, 27]⟩,
             ⟨(some 31), .bslice 56 1 4 [.val (.slice none 0 0), .val (.slice none 0 0), .val (.slice none 0 0), .val (.slice none 0 0)] [(0, 1, .t 22), (1, 1, .t 25), (2, 1, .t 27), (3, 1, .t 30)], none, [22, 25, 27, 30], [0, 1, 2, 3, 4, 5, 6, 7, 8], []⟩,
             ⟨(some 32), .call 32 [.t 31], none, [31], [0, 1, 2, 3, 4, 5, 6, 7, 8, 9], []⟩,
             ⟨(some 3), .mv (.t 32), none, [32], [0, 1, 2, 3, 4, 5, 6, 7, 8, 9, 10], []⟩])))
          (.reg [⟨(some 33), .bin .add (.t 18) (.c (.int .i64 1)), none, [18], [], []⟩,
           ⟨(some 18), .mv (.t 33), none, [33], [], []⟩])))))))
    (.seq (.reg [⟨(some 34), .mv (.t 3), none, [3], [], []⟩,
      ⟨(some 35), .b2s (.t 34), none, [34], [], []⟩,
      ⟨(some 2), .mv (.t 35), none, [35], [], []⟩])
     (.ret))))⟩
theorem chk18 : chkF Tryd.prog 18 sf18 = true := by kernel_rfl
/-- custody/custodian.Digest -/
def sf20 : SF := ⟨7, [.c 2 (some 16)],
 .seq (.reg [⟨(some 1), .box 24 (.t 0), none, [0], [], []⟩,
   ⟨(some 2), .new 36 [.int .u8 0, .int .u8 0, .int .u8 0, .int .u8 0, .int .u8 0, .int .u8 0, .int .u8 0, .int .u8 0, .int .u8 0, .int .u8 0, .int .u8 0, .int .u8 0, .int .u8 0, .int .u8 0, .int .u8 0, .int .u8 0], none, [], [], []⟩])
  (.seq (.reg [⟨(some 3), .load (some 3) (.t 1), none, [1], [], []⟩,
    ⟨(some 4), .call 18 [.t 3], none, [3], [], []⟩,
    ⟨(some 5), .bslice 9 1 1 [.str []] [(0, 1, .t 4)], none, [4], [], []⟩,
    ⟨(some 6), .call 39 [.c (.int .i64 12), .t 5], none, [5], [], []⟩,
    ⟨none, .store 16 (.t 2) (.t 6), none, [6], [], []⟩])
   (.ret))⟩
theorem chk20 : chkF Tryd.prog 20 sf20 = true := by kernel_rfl
/-- custody/custodian.Check -/
def sf22 : SF := ⟨34, [.t 8, .t 9],
 .seq (.reg [⟨(some 4), .box 24 (.t 0), none, [0], [], []⟩,
   ⟨(some 8), .mv (.c (.int .i64 0)), none, [8], [], []⟩,
   ⟨(some 9), .mv (.c (.int .i64 0)), none, [9], [], []⟩])
  (.seq (.seq (.reg [⟨(some 11), .mv (.t 1), none, [], [], []⟩,
     ⟨(some 12), .bin .lss (.t 11) (.c (.int .i64 0)), none, [11], [], []⟩,
     ⟨(some 13), .mv (.t 12), none, [12], [], []⟩,
     ⟨(some 14), .mv (.t 1), (some (13, false)), [], [], []⟩,
     ⟨(some 15), .fld (.t 4) 2, (some (13, false)), [], [], []⟩,
     ⟨(some 16), .load none (.t 15), (some (13, false)), [15], [], []⟩,
     ⟨(some 17), .len false (.t 16), (some (13, false)), [16], [], []⟩,
     ⟨(some 18), .bin .geq (.t 14) (.t 17), (some (13, false)), [14, 17], [], []⟩,
     ⟨(some 19), .pick (.t 13) (.c (.bool true)) (.t 18), none, [13, 18], [], []⟩])
    (.cond (.t 19) (.seq (.reg [⟨(some 8), .mv (.c (.int .i64 0)), none, [], [], []⟩,
       ⟨(some 9), .mv (.c (.int .i64 11)), none, [], [], []⟩])
      (.ret))
     (.skip)))
   (.seq (.reg [⟨(some 20), .fld (.t 4) 2, none, [4], [], []⟩,
     ⟨(some 21), .load none (.t 20), none, [20], [], []⟩,
     ⟨(some 22), .mv (.t 1), none, [1], [], []⟩,
     ⟨(some 23), .idxS (.t 21) (.t 22) 18, none, [21, 22], [], []⟩,
     ⟨(some 24), .load (some 18) (.t 23), none, [23], [], []⟩,
     ⟨(some 10), .new 47 [.str [], .int .u8 0, .int .u8 0, .int .u8 0, .int .u8 0, .int .u8 0, .int .u8 0, .int .u8 0, .int .u8 0, .int .u8 0, .int .u8 0, .int .u8 0, .int .u8 0, .int .u8 0, .int .u8 0, .int .u8 0, .int .u8 0, .int .i64 0], none, [], [], []⟩,
     ⟨none, .store 18 (.t 10) (.t 24), none, [24], [], []⟩])
    (.seq (.reg [⟨(some 25), .fld (.t 10) 1, none, [], [], []⟩,
      ⟨(some 26), .load (some 16) (.t 25), none, [25], [], []⟩,
      ⟨(some 27), .fld (.t 10) 17, none, [10], [], []⟩,
      ⟨(some 28), .load none (.t 27), none, [27], [], []⟩,
      ⟨(some 29), .mv (.t 2), none, [2], [], []⟩,
      ⟨(some 30), .mv (.t 3), none, [3], [], []⟩,
      ⟨(some 31), .callp 41 [.t 26, .t 28, .t 29, .t 30], none, [26, 28, 29, 30], [], []⟩,
      ⟨(some 32), .ext (.t 31) 0, none, [], [], []⟩,
      ⟨(some 33), .ext (.t 31) 1, none, [31], [], []⟩,
      ⟨(some 8), .mv (.t 32), none, [32], [], []⟩,
      ⟨(some 9), .mv (.t 33), none, [33], [], []⟩])
     (.ret))))⟩
theorem chk22 : chkF Tryd.prog 22 sf22 = true := by kernel_rfl
/-- custody/custodian.Statement -/
def sf24 : SF := ⟨26, [.t 10],
 .seq (.reg [⟨(some 5), .box 36 (.t 0), none, [0], [], []⟩,
   ⟨(some 9), .box 36 (.t 4), none, [4], [], []⟩,
   ⟨(some 10), .mv (.c (.str [])), none, [10], [], []⟩])
  (.seq (.reg [⟨(some 12), .bslice 5 1 7 [.int .u8 0, .int .u8 0, .int .u8 0, .int .u8 0, .int .u8 0, .int .u8 0, .int .u8 0] [(0, 1, .c (.int .u8 99)), (1, 1, .c (.int .u8 117)), (2, 1, .c (.int .u8 115)), (3, 1, .c (.int .u8 116)), (4, 1, .c (.int .u8 111)), (5, 1, .c (.int .u8 100)), (6, 1, .c (.int .u8 121))], none, [], [], []⟩,
    ⟨(some 13), .mk8 (.t 12), none, [12], [], []⟩,
    ⟨(some 14), .mv (.t 3), none, [3], [], []⟩,
    ⟨(some 15), .mv (.t 1), none, [1], [], []⟩,
    ⟨(some 16), .mv (.t 2), none, [2], [], []⟩,
    ⟨(some 17), .bslice 3 1 3 [.int .i64 0, .int .i64 0, .int .i64 0] [(0, 1, .t 14), (1, 1, .t 15), (2, 1, .t 16)], none, [14, 15, 16], [], []⟩,
    ⟨(some 18), .call 31 [.t 17], none, [17], [], []⟩,
    ⟨(some 19), .app 5 1 1 (.t 13) (.t 18), none, [13, 18], [], []⟩,
    ⟨(some 11), .mv (.t 19), none, [19], [], []⟩])
   (.seq (.regD 3 [⟨(some 20), .mv (.t 11), none, [], [], [21, 22]⟩,
     ⟨(some 21), .slcA 16 1 (.t 5) none none, none, [], [], [20, 22]⟩,
     ⟨(some 22), .slcA 16 1 (.t 9) none none, none, [5, 9, 11], [], [20, 21]⟩,
     ⟨(some 23), .bslice 56 1 3 [.val (.slice none 0 0), .val (.slice none 0 0), .val (.slice none 0 0)] [(0, 1, .t 20), (1, 1, .t 21), (2, 1, .t 22)], none, [20, 21, 22], [0, 1, 2], []⟩,
     ⟨(some 24), .call 32 [.t 23], none, [23], [0, 1, 2, 3], []⟩,
     ⟨(some 25), .b2s (.t 24), none, [24], [0, 1, 2, 3, 4], []⟩,
     ⟨(some 10), .mv (.t 25), none, [25], [0, 1, 2, 3, 4, 5], []⟩])
    (.ret)))⟩
theorem chk24 : chkF Tryd.prog 24 sf24 = true := by kernel_rfl
/-- custody/custodyref30.Statement -/
def sf25 : SF := ⟨24, [.t 10],
 .seq (.reg [⟨(some 5), .box 36 (.t 0), none, [0], [], []⟩,
   ⟨(some 9), .box 36 (.t 4), none, [4], [], []⟩,
   ⟨(some 10), .mv (.c (.str [])), none, [10], [], []⟩])
  (.seq (.regD 12 [⟨(some 11), .mv (.t 3), none, [], [], [12, 13, 18, 21]⟩,
    ⟨(some 12), .mv (.t 1), none, [], [], [11, 13, 18, 21]⟩,
    ⟨(some 13), .mv (.t 2), none, [], [], [11, 12, 18, 21]⟩,
    ⟨(some 14), .bslice 3 1 3 [.int .i64 0, .int .i64 0, .int .i64 0] [(0, 1, .t 11), (1, 1, .t 12), (2, 1, .t 13)], none, [], [0, 1, 2], [18, 21]⟩,
    ⟨(some 15), .call 35 [.t 14], none, [], [0, 1, 2, 3], [18, 21]⟩,
    ⟨(some 16), .b2s (.t 15), none, [], [0, 1, 2, 3, 4], [18, 19, 21, 22]⟩,
    ⟨(some 17), .bin .add (.c (.str [99, 117, 115, 116, 111, 100, 121])) (.t 16), none, [], [0, 1, 2, 3, 4, 5], [18, 19, 21, 22]⟩,
    ⟨(some 18), .load (some 16) (.t 5), none, [], [], [11, 12, 13, 14, 15, 16, 17, 21]⟩,
    ⟨(some 19), .callp 37 [.t 18], none, [], [0, 1, 2, 3, 4, 7], [16, 17, 21]⟩,
    ⟨(some 20), .bin .add (.t 17) (.t 19), none, [], [0, 1, 2, 3, 4, 5, 6, 7, 8], [21, 22]⟩,
    ⟨(some 21), .load (some 16) (.t 9), none, [], [], [11, 12, 13, 14, 15, 16, 17, 18, 19, 20]⟩,
    ⟨(some 22), .callp 37 [.t 21], none, [1, 2, 3, 5, 9, 11, 12, 13, 14, 15, 16, 17, 18, 19, 21], [0, 1, 2, 3, 4, 7, 8, 10], [16, 17, 20]⟩,
    ⟨(some 23), .bin .add (.t 20) (.t 22), none, [20, 22], [0, 1, 2, 3, 4, 5, 6, 7, 8, 9, 10, 11], []⟩,
    ⟨(some 10), .mv (.t 23), none, [23], [0, 1, 2, 3, 4, 5, 6, 7, 8, 9, 10, 11, 12], []⟩])
   (.ret))⟩
theorem chk25 : chkF Tryd.prog 25 sf25 = true := by kernel_rfl
/-- custody/custodian.Decode -/
def sf26 : SF := ⟨122, [.c 2 (some 3), .t 3],
 .seq (.reg [⟨(some 2), .new 24 [.int .i64 0, .int .i64 0, .val (.slice none 0 0)], none, [], [], []⟩,
   ⟨(some 3), .mv (.c (.int .i64 0)), none, [3], [], []⟩])
  (.seq (.reg [⟨(some 12), .mv (.t 0), none, [0], [], []⟩,
    ⟨(some 13), .s2b 5 (.t 12), none, [12], [], []⟩,
    ⟨(some 14), .build [.val (.slice none 0 0), .int .i64 0] [(0, 1, .t 13)], none, [13], [], []⟩,
    ⟨(some 15), .box 68 (.t 14), none, [14], [], []⟩,
    ⟨(some 4), .mv (.t 15), none, [15], [], []⟩])
   (.seq (.reg [⟨(some 17), .mv (.t 4), none, [], [], []⟩,
     ⟨(some 18), .nilc (.t 17), none, [17], [], []⟩,
     ⟨(some 19), .fld (.t 18) 0, none, [18], [], []⟩,
     ⟨(some 20), .load none (.t 19), none, [19], [], []⟩,
     ⟨(some 21), .call 43 [.t 20], none, [20], [], []⟩,
     ⟨(some 16), .mv (.t 21), none, [21], [], []⟩,
     ⟨(some 22), .ext (.t 16) 0, none, [], [], []⟩,
     ⟨(some 23), .ext (.t 16) 1, none, [], [], []⟩,
     ⟨(some 24), .ext (.t 16) 2, none, [16], [], []⟩,
     ⟨(some 5), .mv (.t 22), none, [22], [], []⟩,
     ⟨(some 6), .mv (.t 23), none, [23], [], []⟩,
     ⟨(some 7), .mv (.t 24), none, [24], [], []⟩])
    (.seq (.block 0 (.seq (.reg [⟨(some 26), .mv (.t 4), none, [], [], []⟩,
        ⟨(some 27), .mv (.t 6), none, [6], [], []⟩,
        ⟨(some 28), .mv (.t 7), none, [7], [], []⟩,
        ⟨(some 29), .call 44 [.t 26, .t 27, .t 28], none, [26, 27, 28], [], []⟩,
        ⟨(some 30), .un .not (.t 29), none, [29], [], []⟩,
        ⟨(some 25), .mv (.t 30), none, [30], [], []⟩])
       (.cond (.t 25) (.seq (.regW 6 [⟨(some 31), .build [.int .i64 0, .int .i64 0, .val (.slice none 0 0)] [], none, [], [], [32, 33, 34, 35]⟩,
          ⟨(some 32), .mv (.t 4), none, [], [], [31]⟩,
          ⟨(some 33), .nilc (.t 32), none, [], [1], [31]⟩,
          ⟨(some 34), .fld (.t 33) 1, none, [], [1, 2], [31]⟩,
          ⟨(some 35), .load none (.t 34), none, [], [1, 2, 3], [31]⟩,
          ⟨none, .store 3 (.t 2) (.t 31), none, [4, 31, 32, 33, 34], [0], [32, 33, 34, 35]⟩,
          ⟨(some 3), .mv (.t 35), none, [35], [0, 1, 2, 3, 4, 5], []⟩])
         (.ret))
        (.seq (.reg [⟨(some 37), .mv (.t 5), none, [], [], []⟩,
          ⟨(some 38), .len false (.t 37), none, [37], [], []⟩,
          ⟨(some 39), .bin .neq (.t 38) (.c (.int .i64 3)), none, [38], [], []⟩,
          ⟨(some 40), .mv (.t 39), none, [39], [], []⟩,
          ⟨(some 41), .mv (.t 5), (some (40, false)), [], [], []⟩,
          ⟨(some 42), .idxS (.t 41) (.c (.int .i64 2)) 1, (some (40, false)), [41], [], []⟩,
          ⟨(some 43), .load none (.t 42), (some (40, false)), [42], [], []⟩,
          ⟨(some 44), .bin .lss (.t 43) (.c (.int .i64 1)), (some (40, false)), [43], [], []⟩,
          ⟨(some 45), .pick (.t 40) (.c (.bool true)) (.t 44), none, [40, 44], [], []⟩,
          ⟨(some 46), .mv (.t 45), none, [45], [], []⟩,
          ⟨(some 47), .mv (.t 5), (some (46, false)), [], [], []⟩,
          ⟨(some 48), .idxS (.t 47) (.c (.int .i64 2)) 1, (some (46, false)), [47], [], []⟩,
          ⟨(some 49), .load none (.t 48), (some (46, false)), [48], [], []⟩,
          ⟨(some 50), .bin .gtr (.t 49) (.c (.int .i64 16)), (some (46, false)), [49], [], []⟩,
          ⟨(some 51), .pick (.t 46) (.c (.bool true)) (.t 50), none, [46, 50], [], []⟩,
          ⟨(some 36), .mv (.t 51), none, [51], [], []⟩])
         (.cond (.t 36) (.seq (.reg [⟨(some 52), .build [.int .i64 0, .int .i64 0, .val (.slice none 0 0)] [], none, [], [], []⟩,
            ⟨none, .store 3 (.t 2) (.t 52), none, [52], [], []⟩,
            ⟨(some 3), .mv (.c (.int .i64 6)), none, [], [], []⟩])
           (.ret))
          (.skip))))))
     (.seq (.regD 12 [⟨(some 53), .mv (.t 5), none, [], [], [8, 56, 57, 58, 59, 60, 61, 62]⟩,
       ⟨(some 54), .idxS (.t 53) (.c (.int .i64 0)) 1, none, [], [0], [8, 56, 57, 58, 59, 60, 61, 62]⟩,
       ⟨(some 55), .load none (.t 54), none, [], [0, 1], [8, 56, 57, 58, 59, 60, 61, 62]⟩,
       ⟨(some 56), .mv (.t 5), none, [], [], [8, 53, 54, 55, 59, 60, 61, 62]⟩,
       ⟨(some 57), .idxS (.t 56) (.c (.int .i64 1)) 1, none, [], [3], [8, 53, 54, 55, 59, 60, 61, 62]⟩,
       ⟨(some 58), .load none (.t 57), none, [], [3, 4], [8, 53, 54, 55, 59, 60, 61, 62]⟩,
       ⟨(some 59), .mv (.t 5), none, [], [], [8, 53, 54, 55, 56, 57, 58]⟩,
       ⟨(some 60), .idxS (.t 59) (.c (.int .i64 2)) 1, none, [], [6], [8, 53, 54, 55, 56, 57, 58]⟩,
       ⟨(some 61), .load none (.t 60), none, [], [6, 7], [8, 53, 54, 55, 56, 57, 58]⟩,
       ⟨(some 62), .mksl 47 18 40 [.str [], .int .u8 0, .int .u8 0, .int .u8 0, .int .u8 0, .int .u8 0, .int .u8 0, .int .u8 0, .int .u8 0, .int .u8 0, .int .u8 0, .int .u8 0, .int .u8 0, .int .u8 0, .int .u8 0, .int .u8 0, .int .u8 0, .int .i64 0] (.t 61) (.t 61), none, [], [6, 7, 8], [8, 53, 54, 55, 56, 57, 58]⟩,
       ⟨(some 63), .build [.int .i64 0, .int .i64 0, .val (.slice none 0 0)] [(0, 1, .t 55), (1, 1, .t 58), (2, 1, .t 62)], none, [], [0, 1, 2, 3, 4, 5, 6, 7, 8, 9], [8]⟩,
       ⟨(some 8), .new 24 [.int .i64 0, .int .i64 0, .val (.slice none 0 0)], none, [5, 53, 54, 55, 56, 57, 58, 59, 60, 61, 62], [], [53, 54, 55, 56, 57, 58, 59, 60, 61, 62, 63]⟩,
       ⟨none, .store 3 (.t 8) (.t 63), none, [63], [0, 1, 2, 3, 4, 5, 6, 7, 8, 9, 10, 11], []⟩])
      (.seq (.seq (.reg [⟨(some 64), .fld (.t 8) 2, none, [], [], []⟩,
         ⟨(some 65), .load none (.t 64), none, [64], [], []⟩,
         ⟨(some 66), .len false (.t 65), none, [65], [], []⟩,
         ⟨(some 67), .mv (.c (.int .i64 0)), none, [], [], []⟩])
        (.block 1 (.loop (.seq (.reg [⟨(some 68), .bin .lss (.t 67) (.t 66), none, [], [], []⟩])
           (.seq (.cond (.t 68) (.skip)
             (.exit 1))
            (.seq (.block 2 (.seq (.reg [⟨(some 69), .mv (.t 67), none, [], [], []⟩,
                ⟨(some 9), .mv (.t 69), none, [69], [], []⟩])
               (.seq (.reg [⟨(some 70), .mv (.t 4), none, [], [], []⟩,
                 ⟨(some 71), .mkfn 45 [.t 70] [], none, [70], [], []⟩,
                 ⟨(some 72), .mv (.t 4), none, [], [], []⟩,
                 ⟨(some 73), .mkfn 46 [.t 72] [], none, [72], [], []⟩,
                 ⟨(some 74), .mv (.t 4), none, [], [], []⟩,
                 ⟨(some 75), .mkfn 47 [.t 74] [], none, [74], [], []⟩,
                 ⟨(some 76), .bslice 72 1 3 [.val .nilFunc, .val .nilFunc, .val .nilFunc] [(0, 1, .t 71), (1, 1, .t 73), (2, 1, .t 75)], none, [71, 73, 75], [], []⟩,
                 ⟨(some 77), .len false (.t 76), none, [], [], []⟩,
                 ⟨(some 78), .mv (.c (.int .i64 0)), none, [], [], []⟩])
                (.block 3 (.loop (.seq (.reg [⟨(some 79), .bin .lss (.t 78) (.t 77), none, [], [], []⟩])
                   (.seq (.cond (.t 79) (.skip)
                     (.exit 3))
                    (.seq (.block 4 (.seq (.reg [⟨(some 80), .idxS (.t 76) (.t 78) 1, none, [], [], []⟩,
                        ⟨(some 81), .load none (.t 80), none, [80], [], []⟩,
                        ⟨(some 11), .mv (.t 81), none, [81], [], []⟩])
                       (.reg [⟨(some 82), .mv (.t 11), none, [11], [], []⟩,
                        ⟨(some 83), .fld (.t 8) 2, none, [], [], []⟩,
                        ⟨(some 84), .load none (.t 83), none, [83], [], []⟩,
                        ⟨(some 85), .mv (.t 9), none, [], [], []⟩,
                        ⟨(some 86), .idxS (.t 84) (.t 85) 18, none, [84, 85], [], []⟩,
                        ⟨(some 87), .callv (.t 82) [.t 86], none, [82, 86, 87], [], []⟩])))
                     (.reg [⟨(some 88), .bin .add (.t 78) (.c (.int .i64 1)), none, [78], [], []⟩,
                      ⟨(some 78), .mv (.t 88), none, [88], [], []⟩])))))))))
             (.reg [⟨(some 89), .bin .add (.t 67) (.c (.int .i64 1)), none, [67], [], []⟩,
              ⟨(some 67), .mv (.t 89), none, [89], [], []⟩])))))))
       (.seq (.seq (.reg [⟨(some 90), .mv (.t 4), none, [], [], []⟩,
          ⟨(some 91), .nilc (.t 90), none, [90], [], []⟩,
          ⟨(some 92), .fld (.t 91) 1, none, [91], [], []⟩,
          ⟨(some 93), .load none (.t 92), none, [92], [], []⟩,
          ⟨(some 94), .bin .eql (.t 93) (.c (.int .i64 0)), none, [93], [], []⟩,
          ⟨(some 95), .mv (.t 94), none, [94], [], []⟩,
          ⟨(some 96), .mv (.t 4), (some (95, true)), [], [], []⟩,
          ⟨(some 97), .nilc (.t 96), (some (95, true)), [96], [], []⟩,
          ⟨(some 98), .fld (.t 97) 0, (some (95, true)), [97], [], []⟩,
          ⟨(some 99), .load none (.t 98), (some (95, true)), [98], [], []⟩,
          ⟨(some 100), .len false (.t 99), (some (95, true)), [99], [], []⟩,
          ⟨(some 101), .bin .gtr (.t 100) (.c (.int .i64 0)), (some (95, true)), [100], [], []⟩,
          ⟨(some 102), .mv (.t 101), (some (95, true)), [101], [], []⟩,
          ⟨(some 103), .load (some 3) (.t 8), (some (102, false)), [], [], []⟩,
          ⟨(some 104), .call 12 [.t 103], (some (102, false)), [103], [], []⟩,
          ⟨(some 105), .un .not (.t 104), (some (102, false)), [104], [], []⟩,
          ⟨(some 106), .pick (.t 102) (.c (.bool true)) (.t 105), (some (95, true)), [102, 105], [], []⟩,
          ⟨(some 107), .pick (.t 95) (.t 106) (.c (.bool false)), none, [95, 106], [], []⟩])
         (.cond (.t 107) (.reg [⟨(some 108), .mv (.t 4), none, [], [], []⟩,
           ⟨(some 109), .nilc (.t 108), none, [108], [], []⟩,
           ⟨(some 110), .fld (.t 109) 1, none, [109], [], []⟩,
           ⟨none, .store 1 (.t 110) (.c (.int .i64 6)), none, [110], [], []⟩])
          (.skip)))
        (.seq (.seq (.reg [⟨(some 111), .mv (.t 4), none, [], [], []⟩,
           ⟨(some 112), .nilc (.t 111), none, [111], [], []⟩,
           ⟨(some 113), .fld (.t 112) 1, none, [112], [], []⟩,
           ⟨(some 114), .load none (.t 113), none, [113], [], []⟩,
           ⟨(some 115), .bin .neq (.t 114) (.c (.int .i64 0)), none, [114], [], []⟩])
          (.cond (.t 115) (.seq (.regW 6 [⟨(some 116), .build [.int .i64 0, .int .i64 0, .val (.slice none 0 0)] [], none, [], [], [117, 118, 119, 120]⟩,
             ⟨(some 117), .mv (.t 4), none, [], [], [116]⟩,
             ⟨(some 118), .nilc (.t 117), none, [], [1], [116]⟩,
             ⟨(some 119), .fld (.t 118) 1, none, [], [1, 2], [116]⟩,
             ⟨(some 120), .load none (.t 119), none, [], [1, 2, 3], [116]⟩,
             ⟨none, .store 3 (.t 2) (.t 116), none, [4, 116, 117, 118, 119], [0], [117, 118, 119, 120]⟩,
             ⟨(some 3), .mv (.t 120), none, [120], [0, 1, 2, 3, 4, 5], []⟩])
            (.ret))
           (.skip)))
         (.seq (.reg [⟨(some 121), .load (some 3) (.t 8), none, [8], [], []⟩,
           ⟨none, .store 3 (.t 2) (.t 121), none, [121], [], []⟩,
           ⟨(some 3), .mv (.c (.int .i64 0)), none, [], [], []⟩])
          (.ret)))))))))⟩
theorem chk26 : chkF Tryd.prog 26 sf26 = true := by kernel_rfl
/-- custody/custodylaw30.two -/
def sf28 : SF := ⟨7, [.c 0 (some 3)],
 .seq (.reg [⟨(some 0), .new 24 [.int .i64 0, .int .i64 0, .val (.slice none 0 0)], none, [], [], []⟩])
  (.seq (.reg [⟨(some 1), .build [.int .u8 0, .int .u8 0, .int .u8 0, .int .u8 0, .int .u8 0, .int .u8 0, .int .u8 0, .int .u8 0, .int .u8 0, .int .u8 0, .int .u8 0, .int .u8 0, .int .u8 0, .int .u8 0, .int .u8 0, .int .u8 0] [(0, 1, .c (.int .u8 1))], none, [], [], []⟩,
    ⟨(some 2), .build [.str [], .int .u8 0, .int .u8 0, .int .u8 0, .int .u8 0, .int .u8 0, .int .u8 0, .int .u8 0, .int .u8 0, .int .u8 0, .int .u8 0, .int .u8 0, .int .u8 0, .int .u8 0, .int .u8 0, .int .u8 0, .int .u8 0, .int .i64 0] [(0, 1, .c (.str [97])), (1, 16, .t 1)], none, [1], [], []⟩,
    ⟨(some 3), .build [.int .u8 0, .int .u8 0, .int .u8 0, .int .u8 0, .int .u8 0, .int .u8 0, .int .u8 0, .int .u8 0, .int .u8 0, .int .u8 0, .int .u8 0, .int .u8 0, .int .u8 0, .int .u8 0, .int .u8 0, .int .u8 0] [(0, 1, .c (.int .u8 2))], none, [], [], []⟩,
    ⟨(some 4), .build [.str [], .int .u8 0, .int .u8 0, .int .u8 0, .int .u8 0, .int .u8 0, .int .u8 0, .int .u8 0, .int .u8 0, .int .u8 0, .int .u8 0, .int .u8 0, .int .u8 0, .int .u8 0, .int .u8 0, .int .u8 0, .int .u8 0, .int .i64 0] [(0, 1, .c (.str [98])), (1, 16, .t 3)], none, [3], [], []⟩,
    ⟨(some 5), .bslice 47 18 2 [.str [], .int .u8 0, .int .u8 0, .int .u8 0, .int .u8 0, .int .u8 0, .int .u8 0, .int .u8 0, .int .u8 0, .int .u8 0, .int .u8 0, .int .u8 0, .int .u8 0, .int .u8 0, .int .u8 0, .int .u8 0, .int .u8 0, .int .i64 0, .str [], .int .u8 0, .int .u8 0, .int .u8 0, .int .u8 0, .int .u8 0, .int .u8 0, .int .u8 0, .int .u8 0, .int .u8 0, .int .u8 0, .int .u8 0, .int .u8 0, .int .u8 0, .int .u8 0, .int .u8 0, .int .u8 0, .int .i64 0] [(0, 18, .t 2), (18, 18, .t 4)], none, [2, 4], [], []⟩,
    ⟨(some 6), .build [.int .i64 0, .int .i64 0, .val (.slice none 0 0)] [(1, 1, .c (.int .i64 2)), (2, 1, .t 5)], none, [5], [], []⟩,
    ⟨none, .store 3 (.t 0) (.t 6), none, [6], [], []⟩])
   (.ret))⟩
theorem chk28 : chkF Tryd.prog 28 sf28 = true := by kernel_rfl
/-- slices.Clone[[]custody/api.Member,custody/api.Member] -/
def sf29 : SF := ⟨8, [.t 2],
 .seq (.reg [⟨(some 2), .mv (.c (.val (.slice none 0 0))), none, [2], [], []⟩])
  (.seq (.seq (.reg [⟨(some 3), .mv (.t 0), none, [], [], []⟩,
     ⟨(some 4), .isNil false (.t 3), none, [3], [], []⟩])
    (.cond (.t 4) (.seq (.reg [⟨(some 2), .mv (.c (.val (.slice none 0 0))), none, [], [], []⟩])
      (.ret))
     (.skip)))
   (.seq (.reg [⟨(some 5), .bslice 47 18 0 [] [], none, [], [], []⟩,
     ⟨(some 6), .mv (.t 0), none, [0], [], []⟩,
     ⟨(some 7), .app 47 18 40 (.t 5) (.t 6), none, [5, 6], [], []⟩,
     ⟨(some 2), .mv (.t 7), none, [7], [], []⟩])
    (.ret)))⟩
theorem chk29 : chkF Tryd.prog 29 sf29 = true := by kernel_rfl
/-- slices.Index[[]custody/api.Member,custody/api.Member] -/
def sf30 : SF := ⟨19, [.t 4],
 .seq (.reg [⟨(some 3), .box 47 (.t 1), none, [1], [], []⟩,
   ⟨(some 4), .mv (.c (.int .i64 0)), none, [4], [], []⟩])
  (.seq (.seq (.reg [⟨(some 6), .mv (.t 0), none, [], [], []⟩,
     ⟨(some 7), .len false (.t 6), none, [6], [], []⟩,
     ⟨(some 8), .mv (.c (.int .i64 0)), none, [], [], []⟩])
    (.block 0 (.loop (.seq (.reg [⟨(some 9), .bin .lss (.t 8) (.t 7), none, [], [], []⟩])
       (.seq (.cond (.t 9) (.skip)
         (.exit 0))
        (.seq (.block 1 (.seq (.reg [⟨(some 10), .mv (.t 8), none, [], [], []⟩,
            ⟨(some 5), .mv (.t 10), none, [10], [], []⟩])
           (.seq (.regP 5 [⟨(some 11), .load (some 18) (.t 3), none, [], [], [12, 13, 14, 15]⟩,
             ⟨(some 12), .mv (.t 0), none, [], [], [11, 13]⟩,
             ⟨(some 13), .mv (.t 5), none, [], [], [11, 12]⟩,
             ⟨(some 14), .idxS (.t 12) (.t 13) 18, none, [], [1, 2], [11]⟩,
             ⟨(some 15), .load (some 18) (.t 14), none, [12, 13, 14], [1, 2, 3], [11]⟩,
             ⟨(some 16), .eqv false [.s, .i .u8, .i .u8, .i .u8, .i .u8, .i .u8, .i .u8, .i .u8, .i .u8, .i .u8, .i .u8, .i .u8, .i .u8, .i .u8, .i .u8, .i .u8, .i .u8, .i .i64] (.t 11) (.t 15), none, [11, 15], [0, 1, 2, 3, 4], []⟩])
            (.cond (.t 16) (.seq (.reg [⟨(some 17), .mv (.t 5), none, [5], [], []⟩,
               ⟨(some 4), .mv (.t 17), none, [17], [], []⟩])
              (.ret))
             (.skip)))))
         (.reg [⟨(some 18), .bin .add (.t 8) (.c (.int .i64 1)), none, [8], [], []⟩,
          ⟨(some 8), .mv (.t 18), none, [18], [], []⟩])))))))
   (.seq (.reg [⟨(some 4), .mv (.c (.int .i64 (-1))), none, [], [], []⟩])
    (.ret)))⟩
theorem chk30 : chkF Tryd.prog 30 sf30 = true := by kernel_rfl
end Go.Proofs.YtkfbkooobfepeaaDoor.Sf

/- The functions of the program that are walked through, written out for the engine (printed by wip/tools/Print.lean from the dump), and the kernel's check of each against the program. -/
namespace Go.Proofs.YtkfbkooobfepeaaDoor.Sf
open Go Go.Sx
set_option maxRecDepth 100000
set_option linter.unusedSimpArgs false
set_option linter.unusedVariables false

/-- custody/wire.Ints -/
def sf31 : SF := ⟨21, [.t 2],
 .seq (.reg [⟨(some 2), .mv (.c (.val (.slice none 0 0))), none, [2], [], []⟩])
  (.seq (.reg [⟨(some 6), .mv (.t 0), none, [], [], []⟩,
    ⟨(some 7), .len false (.t 6), none, [6], [], []⟩,
    ⟨(some 8), .call 34 [.t 7], none, [7], [], []⟩,
    ⟨(some 3), .mv (.t 8), none, [8], [], []⟩])
   (.seq (.seq (.reg [⟨(some 9), .mv (.t 0), none, [0], [], []⟩,
      ⟨(some 10), .len false (.t 9), none, [], [], []⟩,
      ⟨(some 11), .mv (.c (.int .i64 0)), none, [], [], []⟩])
     (.block 0 (.loop (.seq (.reg [⟨(some 12), .bin .lss (.t 11) (.t 10), none, [], [], []⟩])
        (.seq (.cond (.t 12) (.skip)
          (.exit 0))
         (.seq (.block 1 (.seq (.reg [⟨(some 13), .idxS (.t 9) (.t 11) 1, none, [], [], []⟩,
             ⟨(some 14), .load none (.t 13), none, [13], [], []⟩,
             ⟨(some 5), .mv (.t 14), none, [14], [], []⟩])
            (.reg [⟨(some 15), .mv (.t 3), none, [3], [], []⟩,
             ⟨(some 16), .mv (.t 5), none, [5], [], []⟩,
             ⟨(some 17), .call 34 [.t 16], none, [16], [], []⟩,
             ⟨(some 18), .app 5 1 1 (.t 15) (.t 17), none, [15, 17], [], []⟩,
             ⟨(some 3), .mv (.t 18), none, [18], [], []⟩])))
          (.reg [⟨(some 19), .bin .add (.t 11) (.c (.int .i64 1)), none, [11], [], []⟩,
           ⟨(some 11), .mv (.t 19), none, [19], [], []⟩])))))))
    (.seq (.reg [⟨(some 20), .mv (.t 3), none, [3], [], []⟩,
      ⟨(some 2), .mv (.t 20), none, [20], [], []⟩])
     (.ret))))⟩
theorem chk31 : chkF Tryd.prog 31 sf31 = true := by kernel_rfl
/-- slices.Concat[[]byte,byte] -/
def sf32 : SF := ⟨36, [.t 2],
 .seq (.reg [⟨(some 2), .mv (.c (.val (.slice none 0 0))), none, [2], [], []⟩])
  (.seq (.reg [⟨(some 3), .mv (.c (.int .i64 0)), none, [], [], []⟩])
   (.seq (.seq (.reg [⟨(some 9), .mv (.t 0), none, [], [], []⟩,
      ⟨(some 10), .len false (.t 9), none, [], [], []⟩,
      ⟨(some 11), .mv (.c (.int .i64 0)), none, [], [], []⟩])
     (.block 0 (.loop (.seq (.reg [⟨(some 12), .bin .lss (.t 11) (.t 10), none, [], [], []⟩])
        (.seq (.cond (.t 12) (.skip)
          (.exit 0))
         (.seq (.block 1 (.seq (.reg [⟨(some 13), .idxS (.t 9) (.t 11) 1, none, [], [], []⟩,
             ⟨(some 14), .load none (.t 13), none, [13], [], []⟩,
             ⟨(some 5), .mv (.t 14), none, [14], [], []⟩])
            (.seq (.reg [⟨(some 15), .mv (.t 3), none, [3], [], []⟩,
              ⟨(some 16), .mv (.t 5), none, [5], [], []⟩,
              ⟨(some 17), .len false (.t 16), none, [16], [], []⟩,
              ⟨(some 18), .bin .add (.t 15) (.t 17), none, [15, 17], [], []⟩,
              ⟨(some 3), .mv (.t 18), none, [18], [], []⟩])
             (.seq (.reg [⟨(some 19), .mv (.t 3), none, [], [], []⟩,
               ⟨(some 20), .bin .lss (.t 19) (.c (.int .i64 0)), none, [19], [], []⟩])
              (.cond (.t 20) (.bad)
               (.skip))))))
          (.reg [⟨(some 22), .bin .add (.t 11) (.c (.int .i64 1)), none, [11], [], []⟩,
           ⟨(some 11), .mv (.t 22), none, [22], [], []⟩])))))))
    (.seq (.reg [⟨(some 23), .mv (.t 3), none, [3], [], []⟩,
      ⟨(some 24), .call 51 [.c (.val (.slice none 0 0)), .t 23], none, [23], [], []⟩,
      ⟨(some 6), .mv (.t 24), none, [24], [], []⟩])
     (.seq (.seq (.reg [⟨(some 25), .mv (.t 0), none, [0], [], []⟩,
        ⟨(some 26), .len false (.t 25), none, [], [], []⟩,
        ⟨(some 27), .mv (.c (.int .i64 0)), none, [], [], []⟩])
       (.block 2 (.loop (.seq (.reg [⟨(some 28), .bin .lss (.t 27) (.t 26), none, [], [], []⟩])
          (.seq (.cond (.t 28) (.skip)
            (.exit 2))
           (.seq (.block 3 (.seq (.reg [⟨(some 29), .idxS (.t 25) (.t 27) 1, none, [], [], []⟩,
               ⟨(some 30), .load none (.t 29), none, [29], [], []⟩,
               ⟨(some 8), .mv (.t 30), none, [30], [], []⟩])
              (.reg [⟨(some 31), .mv (.t 6), none, [6], [], []⟩,
               ⟨(some 32), .mv (.t 8), none, [8], [], []⟩,
               ⟨(some 33), .app 5 1 1 (.t 31) (.t 32), none, [31, 32], [], []⟩,
               ⟨(some 6), .mv (.t 33), none, [33], [], []⟩])))
            (.reg [⟨(some 34), .bin .add (.t 27) (.c (.int .i64 1)), none, [27], [], []⟩,
             ⟨(some 27), .mv (.t 34), none, [34], [], []⟩])))))))
      (.seq (.reg [⟨(some 35), .mv (.t 6), none, [6], [], []⟩,
        ⟨(some 2), .mv (.t 35), none, [35], [], []⟩])
       (.ret))))))⟩
theorem chk32 : chkF Tryd.prog 32 sf32 = true := by kernel_rfl
/-- custody/wire.Bytes -/
def sf33 : SF := ⟨8, [.t 2],
 .seq (.reg [⟨(some 2), .mv (.c (.val (.slice none 0 0))), none, [2], [], []⟩])
  (.seq (.reg [⟨(some 3), .mv (.t 0), none, [], [], []⟩,
    ⟨(some 4), .len true (.t 3), none, [3], [], []⟩,
    ⟨(some 5), .call 34 [.t 4], none, [4], [], []⟩,
    ⟨(some 6), .mv (.t 0), none, [0], [], []⟩,
    ⟨(some 7), .app 5 1 1 (.t 5) (.t 6), none, [5, 6], [], []⟩,
    ⟨(some 2), .mv (.t 7), none, [7], [], []⟩])
   (.ret))⟩
theorem chk33 : chkF Tryd.prog 33 sf33 = true := by kernel_rfl
/-- custody/wire.Int -/
def sf34 : SF := ⟨47, [.t 2],
 .seq (.reg [⟨(some 2), .mv (.c (.val (.slice none 0 0))), none, [2], [], []⟩])
  (.seq (.reg [⟨(some 8), .mv (.t 0), none, [], [], []⟩,
    ⟨(some 9), .conv .u64 (.t 8), none, [8], [], []⟩,
    ⟨(some 3), .mv (.t 9), none, [9], [], []⟩,
    ⟨(some 4), .mv (.c (.int .u8 0)), none, [], [], []⟩])
   (.seq (.seq (.reg [⟨(some 10), .mv (.t 0), none, [0], [], []⟩,
      ⟨(some 11), .bin .lss (.t 10) (.c (.int .i64 0)), none, [10], [], []⟩])
     (.cond (.t 11) (.reg [⟨(some 12), .mv (.t 3), none, [3], [], []⟩,
       ⟨(some 13), .un .xor (.t 12), none, [12], [], []⟩,
       ⟨(some 3), .mv (.t 13), none, [13], [], []⟩,
       ⟨(some 4), .mv (.c (.int .u8 255)), none, [], [], []⟩])
      (.skip)))
    (.seq (.reg [⟨(some 5), .mv (.c (.int .i64 8)), none, [], [], []⟩])
     (.seq (.skip)
      (.seq (.block 0 (.loop (.seq (.seq (.reg [⟨(some 14), .mv (.t 5), none, [], [], []⟩,
            ⟨(some 15), .bin .gtr (.t 14) (.c (.int .i64 0)), none, [14], [], []⟩])
           (.cond (.t 15) (.skip)
            (.exit 0)))
          (.block 1 (.seq (.seq (.reg [⟨(some 16), .mv (.t 3), none, [], [], []⟩,
              ⟨(some 17), .mv (.t 5), none, [], [], []⟩,
              ⟨(some 18), .bin .sub (.t 17) (.c (.int .i64 1)), none, [17], [], []⟩,
              ⟨(some 19), .bin .mul (.c (.int .i64 8)) (.t 18), none, [18], [], []⟩,
              ⟨(some 20), .bin .shr (.t 16) (.t 19), none, [16, 19], [], []⟩,
              ⟨(some 21), .bin .gtr (.t 20) (.c (.int .u64 0)), none, [20], [], []⟩])
             (.cond (.t 21) (.exit 0)
              (.skip)))
            (.reg [⟨(some 22), .mv (.t 5), none, [5], [], []⟩,
             ⟨(some 23), .bin .sub (.t 22) (.c (.int .i64 1)), none, [22], [], []⟩,
             ⟨(some 5), .mv (.t 23), none, [23], [], []⟩]))))))
       (.seq (.reg [⟨(some 24), .mv (.t 5), none, [], [], []⟩,
         ⟨(some 25), .bin .add (.c (.int .i64 128)) (.t 24), none, [24], [], []⟩,
         ⟨(some 26), .conv .u8 (.t 25), none, [25], [], []⟩,
         ⟨(some 27), .mv (.t 4), none, [], [], []⟩,
         ⟨(some 28), .bin .xor (.t 26) (.t 27), none, [26, 27], [], []⟩,
         ⟨(some 29), .bslice 5 1 1 [.int .u8 0] [(0, 1, .t 28)], none, [28], [], []⟩,
         ⟨(some 6), .mv (.t 29), none, [29], [], []⟩])
        (.seq (.seq (.reg [⟨(some 30), .mv (.t 5), none, [5], [], []⟩,
           ⟨(some 31), .bin .sub (.t 30) (.c (.int .i64 1)), none, [30], [], []⟩,
           ⟨(some 7), .mv (.t 31), none, [31], [], []⟩])
          (.block 2 (.loop (.seq (.seq (.reg [⟨(some 32), .mv (.t 7), none, [], [], []⟩,
               ⟨(some 33), .bin .geq (.t 32) (.c (.int .i64 0)), none, [32], [], []⟩])
              (.cond (.t 33) (.skip)
               (.exit 2)))
             (.seq (.block 3 (.reg [⟨(some 36), .mv (.t 6), none, [6], [], []⟩,
                ⟨(some 37), .mv (.t 3), none, [], [], []⟩,
                ⟨(some 38), .mv (.t 7), none, [], [], []⟩,
                ⟨(some 39), .bin .mul (.c (.int .i64 8)) (.t 38), none, [38], [], []⟩,
                ⟨(some 40), .bin .shr (.t 37) (.t 39), none, [37, 39], [], []⟩,
                ⟨(some 41), .conv .u8 (.t 40), none, [40], [], []⟩,
                ⟨(some 42), .mv (.t 4), none, [], [], []⟩,
                ⟨(some 43), .bin .xor (.t 41) (.t 42), none, [41, 42], [], []⟩,
                ⟨(some 44), .bslice 5 1 1 [.int .u8 0] [(0, 1, .t 43)], none, [43], [], []⟩,
                ⟨(some 45), .app 5 1 1 (.t 36) (.t 44), none, [36, 44], [], []⟩,
                ⟨(some 6), .mv (.t 45), none, [45], [], []⟩]))
              (.reg [⟨(some 34), .mv (.t 7), none, [7], [], []⟩,
               ⟨(some 35), .bin .sub (.t 34) (.c (.int .i64 1)), none, [34], [], []⟩,
               ⟨(some 7), .mv (.t 35), none, [35], [], []⟩]))))))
         (.seq (.reg [⟨(some 46), .mv (.t 6), none, [6], [], []⟩,
           ⟨(some 2), .mv (.t 46), none, [46], [], []⟩])
          (.ret)))))))))⟩
theorem chk34 : chkF Tryd.prog 34 sf34 = true := by kernel_rfl
/-- custody/custodyref01.Ints -/
def sf35 : SF := ⟨22, [.t 2],
 .seq (.reg [⟨(some 2), .mv (.c (.val (.slice none 0 0))), none, [2], [], []⟩])
  (.seq (.reg [⟨(some 5), .mv (.t 0), none, [], [], []⟩,
    ⟨(some 6), .len false (.t 5), none, [5], [], []⟩,
    ⟨(some 7), .call 38 [.t 6], none, [6], [], []⟩,
    ⟨(some 3), .mv (.t 7), none, [7], [], []⟩])
   (.seq (.seq (.reg [⟨(some 4), .mv (.c (.int .i64 0)), none, [], [], []⟩])
     (.block 0 (.loop (.seq (.seq (.reg [⟨(some 8), .mv (.t 4), none, [], [], []⟩,
          ⟨(some 9), .mv (.t 0), none, [], [], []⟩,
          ⟨(some 10), .len false (.t 9), none, [9], [], []⟩,
          ⟨(some 11), .bin .lss (.t 8) (.t 10), none, [8, 10], [], []⟩])
         (.cond (.t 11) (.skip)
          (.exit 0)))
        (.seq (.block 1 (.reg [⟨(some 14), .mv (.t 3), none, [3], [], []⟩,
           ⟨(some 15), .mv (.t 0), none, [], [], []⟩,
           ⟨(some 16), .mv (.t 4), none, [], [], []⟩,
           ⟨(some 17), .idxS (.t 15) (.t 16) 1, none, [15, 16], [], []⟩,
           ⟨(some 18), .load none (.t 17), none, [17], [], []⟩,
           ⟨(some 19), .call 38 [.t 18], none, [18], [], []⟩,
           ⟨(some 20), .app 5 1 1 (.t 14) (.t 19), none, [14, 19], [], []⟩,
           ⟨(some 3), .mv (.t 20), none, [20], [], []⟩]))
         (.reg [⟨(some 12), .mv (.t 4), none, [4], [], []⟩,
          ⟨(some 13), .bin .add (.t 12) (.c (.int .i64 1)), none, [12], [], []⟩,
          ⟨(some 4), .mv (.t 13), none, [13], [], []⟩]))))))
    (.seq (.reg [⟨(some 21), .mv (.t 3), none, [3], [], []⟩,
      ⟨(some 2), .mv (.t 21), none, [21], [], []⟩])
     (.ret))))⟩
theorem chk35 : chkF Tryd.prog 35 sf35 = true := by kernel_rfl
/-- custody/custodyref01.Bytes -/
def sf36 : SF := ⟨9, [.t 2],
 .seq (.reg [⟨(some 2), .mv (.c (.val (.slice none 0 0))), none, [2], [], []⟩])
  (.seq (.reg [⟨(some 3), .mv (.t 0), none, [], [], []⟩,
    ⟨(some 4), .len true (.t 3), none, [3], [], []⟩,
    ⟨(some 5), .call 38 [.t 4], none, [4], [], []⟩,
    ⟨(some 6), .mv (.t 0), none, [0], [], []⟩,
    ⟨(some 7), .s2b 5 (.t 6), none, [6], [], []⟩,
    ⟨(some 8), .app 5 1 1 (.t 5) (.t 7), none, [5, 7], [], []⟩,
    ⟨(some 2), .mv (.t 8), none, [8], [], []⟩])
   (.ret))⟩
theorem chk36 : chkF Tryd.prog 36 sf36 = true := by kernel_rfl
/-- custody/custodyref02.Text -/
def sf37 : SF := ⟨17, [.t 2],
 .seq (.reg [⟨(some 1), .box 36 (.t 0), none, [0], [], []⟩,
   ⟨(some 2), .mv (.c (.str [])), none, [2], [], []⟩])
  (.seq (.reg [⟨(some 3), .mv (.c (.val (.slice none 0 0))), none, [], [], []⟩])
   (.seq (.seq (.reg [⟨(some 4), .mv (.c (.int .i64 0)), none, [], [], []⟩])
     (.block 0 (.loop (.seq (.seq (.reg [⟨(some 5), .mv (.t 4), none, [], [], []⟩,
          ⟨(some 6), .bin .lss (.t 5) (.c (.int .i64 16)), none, [5], [], []⟩])
         (.cond (.t 6) (.skip)
          (.exit 0)))
        (.seq (.block 1 (.reg [⟨(some 9), .mv (.t 3), none, [3], [], []⟩,
           ⟨(some 10), .mv (.t 4), none, [], [], []⟩,
           ⟨(some 11), .idxA (.t 1) (.t 10) 16 1, none, [10], [], []⟩,
           ⟨(some 12), .load none (.t 11), none, [11], [], []⟩,
           ⟨(some 13), .bslice 5 1 1 [.int .u8 0] [(0, 1, .t 12)], none, [12], [], []⟩,
           ⟨(some 14), .app 5 1 1 (.t 9) (.t 13), none, [9, 13], [], []⟩,
           ⟨(some 3), .mv (.t 14), none, [14], [], []⟩]))
         (.reg [⟨(some 7), .mv (.t 4), none, [4], [], []⟩,
          ⟨(some 8), .bin .add (.t 7) (.c (.int .i64 1)), none, [7], [], []⟩,
          ⟨(some 4), .mv (.t 8), none, [8], [], []⟩]))))))
    (.seq (.reg [⟨(some 15), .mv (.t 3), none, [3], [], []⟩,
      ⟨(some 16), .b2s (.t 15), none, [15], [], []⟩,
      ⟨(some 2), .mv (.t 16), none, [16], [], []⟩])
     (.ret))))⟩
theorem chk37 : chkF Tryd.prog 37 sf37 = true := by kernel_rfl
/-- custody/custodyref01.Int -/
def sf38 : SF := ⟨59, [.t 2],
 .seq (.reg [⟨(some 2), .mv (.c (.val (.slice none 0 0))), none, [2], [], []⟩])
  (.seq (.reg [⟨(some 9), .mv (.t 0), none, [], [], []⟩,
    ⟨(some 3), .mv (.t 9), none, [9], [], []⟩])
   (.seq (.seq (.reg [⟨(some 10), .mv (.t 0), none, [], [], []⟩,
      ⟨(some 11), .bin .lss (.t 10) (.c (.int .i64 0)), none, [10], [], []⟩])
     (.cond (.t 11) (.reg [⟨(some 12), .mv (.t 0), none, [], [], []⟩,
       ⟨(some 13), .bin .sub (.c (.int .i64 (-1))) (.t 12), none, [12], [], []⟩,
       ⟨(some 3), .mv (.t 13), none, [13], [], []⟩])
      (.skip)))
    (.seq (.reg [⟨(some 4), .mv (.c (.val (.slice none 0 0))), none, [], [], []⟩])
     (.seq (.block 0 (.loop (.seq (.seq (.reg [⟨(some 14), .mv (.t 3), none, [], [], []⟩,
           ⟨(some 15), .bin .gtr (.t 14) (.c (.int .i64 0)), none, [14], [], []⟩])
          (.cond (.t 15) (.skip)
           (.exit 0)))
         (.block 1 (.seq (.reg [⟨(some 16), .mv (.t 4), none, [4], [], []⟩,
            ⟨(some 17), .mv (.t 3), none, [], [], []⟩,
            ⟨(some 18), .bin .rem (.t 17) (.c (.int .i64 256)), none, [17], [], []⟩,
            ⟨(some 19), .conv .u8 (.t 18), none, [18], [], []⟩,
            ⟨(some 20), .bslice 5 1 1 [.int .u8 0] [(0, 1, .t 19)], none, [19], [], []⟩,
            ⟨(some 21), .app 5 1 1 (.t 16) (.t 20), none, [16, 20], [], []⟩,
            ⟨(some 4), .mv (.t 21), none, [21], [], []⟩])
           (.reg [⟨(some 22), .mv (.t 3), none, [3], [], []⟩,
            ⟨(some 23), .bin .quo (.t 22) (.c (.int .i64 256)), none, [22], [], []⟩,
            ⟨(some 3), .mv (.t 23), none, [23], [], []⟩]))))))
      (.seq (.reg [⟨(some 24), .mv (.t 4), none, [], [], []⟩,
        ⟨(some 25), .len false (.t 24), none, [24], [], []⟩,
        ⟨(some 5), .mv (.t 25), none, [25], [], []⟩])
       (.seq (.reg [⟨(some 6), .mv (.c (.val (.slice none 0 0))), none, [], [], []⟩])
        (.seq (.seq (.reg [⟨(some 26), .mv (.t 0), none, [], [], []⟩,
           ⟨(some 27), .bin .geq (.t 26) (.c (.int .i64 0)), none, [26], [], []⟩])
          (.cond (.t 27) (.reg [⟨(some 28), .mv (.t 6), none, [6], [], []⟩,
            ⟨(some 29), .mv (.t 5), none, [], [], []⟩,
            ⟨(some 30), .bin .add (.c (.int .i64 128)) (.t 29), none, [29], [], []⟩,
            ⟨(some 31), .conv .u8 (.t 30), none, [30], [], []⟩,
            ⟨(some 32), .bslice 5 1 1 [.int .u8 0] [(0, 1, .t 31)], none, [31], [], []⟩,
            ⟨(some 33), .app 5 1 1 (.t 28) (.t 32), none, [28, 32], [], []⟩,
            ⟨(some 6), .mv (.t 33), none, [33], [], []⟩])
           (.reg [⟨(some 34), .mv (.t 6), none, [6], [], []⟩,
            ⟨(some 35), .mv (.t 5), none, [], [], []⟩,
            ⟨(some 36), .bin .sub (.c (.int .i64 127)) (.t 35), none, [35], [], []⟩,
            ⟨(some 37), .conv .u8 (.t 36), none, [36], [], []⟩,
            ⟨(some 38), .bslice 5 1 1 [.int .u8 0] [(0, 1, .t 37)], none, [37], [], []⟩,
            ⟨(some 39), .app 5 1 1 (.t 34) (.t 38), none, [34, 38], [], []⟩,
            ⟨(some 6), .mv (.t 39), none, [39], [], []⟩])))
         (.seq (.seq (.reg [⟨(some 40), .mv (.t 5), none, [5], [], []⟩,
            ⟨(some 41), .bin .sub (.t 40) (.c (.int .i64 1)), none, [40], [], []⟩,
            ⟨(some 7), .mv (.t 41), none, [41], [], []⟩])
           (.block 2 (.loop (.seq (.seq (.reg [⟨(some 42), .mv (.t 7), none, [], [], []⟩,
                ⟨(some 43), .bin .geq (.t 42) (.c (.int .i64 0)), none, [42], [], []⟩])
               (.cond (.t 43) (.skip)
                (.exit 2)))
              (.seq (.block 3 (.seq (.reg [⟨(some 46), .mv (.t 4), none, [], [], []⟩,
                  ⟨(some 47), .mv (.t 7), none, [], [], []⟩,
                  ⟨(some 48), .idxS (.t 46) (.t 47) 1, none, [46, 47], [], []⟩,
                  ⟨(some 49), .load none (.t 48), none, [48], [], []⟩,
                  ⟨(some 8), .mv (.t 49), none, [49], [], []⟩])
                 (.seq (.seq (.reg [⟨(some 50), .mv (.t 0), none, [], [], []⟩,
                    ⟨(some 51), .bin .lss (.t 50) (.c (.int .i64 0)), none, [50], [], []⟩])
                   (.cond (.t 51) (.reg [⟨(some 52), .mv (.t 8), none, [8], [], []⟩,
                     ⟨(some 53), .bin .sub (.c (.int .u8 255)) (.t 52), none, [52], [], []⟩,
                     ⟨(some 8), .mv (.t 53), none, [53], [], []⟩])
                    (.skip)))
                  (.reg [⟨(some 54), .mv (.t 6), none, [6], [], []⟩,
                   ⟨(some 55), .mv (.t 8), none, [8], [], []⟩,
                   ⟨(some 56), .bslice 5 1 1 [.int .u8 0] [(0, 1, .t 55)], none, [55], [], []⟩,
                   ⟨(some 57), .app 5 1 1 (.t 54) (.t 56), none, [54, 56], [], []⟩,
                   ⟨(some 6), .mv (.t 57), none, [57], [], []⟩]))))
               (.reg [⟨(some 44), .mv (.t 7), none, [7], [], []⟩,
                ⟨(some 45), .bin .sub (.t 44) (.c (.int .i64 1)), none, [44], [], []⟩,
                ⟨(some 7), .mv (.t 45), none, [45], [], []⟩]))))))
          (.seq (.reg [⟨(some 58), .mv (.t 6), none, [6], [], []⟩,
            ⟨(some 2), .mv (.t 58), none, [58], [], []⟩])
           (.ret))))))))))⟩
theorem chk38 : chkF Tryd.prog 38 sf38 = true := by kernel_rfl
/-- custody/hash.Of -/
def sf39 : SF := ⟨32, [.c 4 (some 16)],
 .seq (.reg [⟨(some 4), .new 36 [.int .u8 0, .int .u8 0, .int .u8 0, .int .u8 0, .int .u8 0, .int .u8 0, .int .u8 0, .int .u8 0, .int .u8 0, .int .u8 0, .int .u8 0, .int .u8 0, .int .u8 0, .int .u8 0, .int .u8 0, .int .u8 0], none, [], [], []⟩])
  (.seq (.regD 7 [⟨(some 9), .callp 52 [], none, [], [], [5, 10, 11, 12, 13]⟩,
    ⟨(some 10), .mv (.t 0), none, [], [], [5, 9]⟩,
    ⟨(some 11), .conv .u8 (.t 10), none, [], [1], [5, 9]⟩,
    ⟨(some 12), .bslice 5 1 1 [.int .u8 0] [(0, 1, .t 11)], none, [], [1, 2], [5, 9]⟩,
    ⟨(some 13), .b2s (.t 12), none, [], [1, 2, 3], [5, 9]⟩,
    ⟨(some 14), .callp 53 [.t 9, .t 13], none, [], [0, 1, 2, 3, 4], [5]⟩,
    ⟨(some 5), .new 86 [.int .u32 0, .int .u32 0, .int .u32 0, .int .u32 0, .int .u32 0, .int .u32 0, .int .u32 0, .int .u32 0, .int .u8 0, .int .u8 0, .int .u8 0, .int .u8 0, .int .u8 0, .int .u8 0, .int .u8 0, .int .u8 0, .int .u8 0, .int .u8 0, .int .u8 0, .int .u8 0, .int .u8 0, .int .u8 0, .int .u8 0, .int .u8 0, .int .u8 0, .int .u8 0, .int .u8 0, .int .u8 0, .int .u8 0, .int .u8 0, .int .u8 0, .int .u8 0, .int .u8 0, .int .u8 0, .int .u8 0, .int .u8 0, .int .u8 0, .int .u8 0, .int .u8 0, .int .u8 0, .int .u8 0, .int .u8 0, .int .u8 0, .int .u8 0, .int .u8 0, .int .u8 0, .int .u8 0, .int .u8 0, .int .u8 0, .int .u8 0, .int .u8 0, .int .u8 0, .int .u8 0, .int .u8 0, .int .u8 0, .int .u8 0, .int .u8 0, .int .u8 0, .int .u8 0, .int .u8 0, .int .u8 0, .int .u8 0, .int .u8 0, .int .u8 0, .int .u8 0, .int .u8 0, .int .u8 0, .int .u8 0, .int .u8 0, .int .u8 0, .int .u8 0, .int .u8 0, .int .u64 0], none, [0, 9, 10, 11, 12, 13], [], [9, 10, 11, 12, 13, 14]⟩,
    ⟨none, .store 73 (.t 5) (.t 14), none, [14], [0, 1, 2, 3, 4, 5, 6], []⟩])
   (.seq (.seq (.reg [⟨(some 15), .mv (.t 1), none, [1], [], []⟩,
      ⟨(some 16), .len false (.t 15), none, [], [], []⟩,
      ⟨(some 17), .mv (.c (.int .i64 0)), none, [], [], []⟩])
     (.block 0 (.loop (.seq (.reg [⟨(some 18), .bin .lss (.t 17) (.t 16), none, [], [], []⟩])
        (.seq (.cond (.t 18) (.skip)
          (.exit 0))
         (.seq (.block 1 (.seq (.reg [⟨(some 19), .idxS (.t 15) (.t 17) 1, none, [], [], []⟩,
             ⟨(some 20), .load none (.t 19), none, [19], [], []⟩,
             ⟨(some 7), .mv (.t 20), none, [20], [], []⟩])
            (.regD 4 [⟨(some 21), .load (some 73) (.t 5), none, [], [], [22, 23, 24]⟩,
             ⟨(some 22), .mv (.t 7), none, [], [], [21]⟩,
             ⟨(some 23), .call 33 [.t 22], none, [], [1], [21]⟩,
             ⟨(some 24), .b2s (.t 23), none, [7, 22, 23], [1, 2], [21]⟩,
             ⟨(some 25), .callp 53 [.t 21, .t 24], none, [21, 24], [0, 1, 2, 3], []⟩,
             ⟨none, .store 73 (.t 5) (.t 25), none, [25], [0, 1, 2, 3, 4], []⟩])))
          (.reg [⟨(some 26), .bin .add (.t 17) (.c (.int .i64 1)), none, [17], [], []⟩,
           ⟨(some 17), .mv (.t 26), none, [26], [], []⟩])))))))
    (.seq (.reg [⟨(some 27), .load (some 73) (.t 5), none, [5], [], []⟩,
      ⟨(some 28), .callp 54 [.t 27], none, [27], [], []⟩,
      ⟨(some 8), .new 89 [.int .u8 0, .int .u8 0, .int .u8 0, .int .u8 0, .int .u8 0, .int .u8 0, .int .u8 0, .int .u8 0, .int .u8 0, .int .u8 0, .int .u8 0, .int .u8 0, .int .u8 0, .int .u8 0, .int .u8 0, .int .u8 0, .int .u8 0, .int .u8 0, .int .u8 0, .int .u8 0, .int .u8 0, .int .u8 0, .int .u8 0, .int .u8 0, .int .u8 0, .int .u8 0, .int .u8 0, .int .u8 0, .int .u8 0, .int .u8 0, .int .u8 0, .int .u8 0], none, [], [], []⟩,
      ⟨none, .store 32 (.t 8) (.t 28), none, [28], [], []⟩])
     (.seq (.reg [⟨(some 29), .slcA 32 1 (.t 8) none (some (.c (.int .i64 16))), none, [8], [], []⟩,
       ⟨(some 30), .arrAt 16 (.t 29), none, [29], [], []⟩,
       ⟨(some 31), .load (some 16) (.t 30), none, [30], [], []⟩,
       ⟨none, .store 16 (.t 4) (.t 31), none, [31], [], []⟩])
      (.ret)))))⟩
theorem chk39 : chkF Tryd.prog 39 sf39 = true := by kernel_rfl
/-- custody/treesig.Verify -/
def sf41 : SF := ⟨129, [.t 8, .t 9],
 .seq (.reg [⟨(some 4), .box 36 (.t 0), none, [0], [], []⟩,
   ⟨(some 8), .mv (.c (.int .i64 0)), none, [8], [], []⟩,
   ⟨(some 9), .mv (.c (.int .i64 0)), none, [9], [], []⟩])
  (.seq (.block 0 (.seq (.reg [⟨(some 21), .mv (.t 1), none, [], [], []⟩,
      ⟨(some 22), .callp 57 [.t 21], none, [21], [], []⟩,
      ⟨(some 23), .un .not (.t 22), none, [22], [], []⟩,
      ⟨(some 20), .mv (.t 23), none, [23], [], []⟩])
     (.cond (.t 20) (.seq (.reg [⟨(some 8), .mv (.c (.int .i64 0)), none, [], [], []⟩,
        ⟨(some 9), .mv (.c (.int .i64 1)), none, [], [], []⟩])
       (.ret))
      (.seq (.reg [⟨(some 25), .mv (.t 2), none, [], [], []⟩,
        ⟨(some 26), .len true (.t 25), none, [25], [], []⟩,
        ⟨(some 27), .bin .gtr (.t 26) (.c (.int .i64 1048576)), none, [26], [], []⟩,
        ⟨(some 24), .mv (.t 27), none, [27], [], []⟩])
       (.cond (.t 24) (.seq (.reg [⟨(some 8), .mv (.c (.int .i64 0)), none, [], [], []⟩,
          ⟨(some 9), .mv (.c (.int .i64 2)), none, [], [], []⟩])
         (.ret))
        (.skip))))))
   (.seq (.reg [⟨(some 29), .mv (.t 3), none, [3], [], []⟩,
     ⟨(some 30), .call 58 [.t 29], none, [29], [], []⟩,
     ⟨(some 28), .mv (.t 30), none, [30], [], []⟩,
     ⟨(some 31), .ext (.t 28) 0, none, [], [], []⟩,
     ⟨(some 32), .ext (.t 28) 1, none, [28], [], []⟩,
     ⟨(some 10), .mv (.t 31), none, [31], [], []⟩,
     ⟨(some 11), .mv (.t 32), none, [32], [], []⟩])
    (.seq (.reg [⟨(some 34), .mv (.t 11), none, [], [], []⟩,
      ⟨(some 35), .callv (.t 34) [], none, [34], [], []⟩,
      ⟨(some 33), .mv (.t 35), none, [35], [], []⟩,
      ⟨(some 36), .ext (.t 33) 0, none, [], [], []⟩,
      ⟨(some 37), .ext (.t 33) 1, none, [33], [], []⟩,
      ⟨(some 12), .mv (.t 36), none, [36], [], []⟩,
      ⟨(some 13), .mv (.t 37), none, [13, 37], [], []⟩])
     (.seq (.reg [⟨(some 39), .mv (.t 12), none, [12], [], []⟩,
       ⟨(some 40), .call 59 [.t 39], none, [39], [], []⟩,
       ⟨(some 38), .mv (.t 40), none, [40], [], []⟩,
       ⟨(some 41), .ext (.t 38) 0, none, [], [], []⟩,
       ⟨(some 42), .ext (.t 38) 1, none, [], [], []⟩,
       ⟨(some 43), .ext (.t 38) 2, none, [38], [], []⟩,
       ⟨(some 14), .mv (.t 41), none, [41], [], []⟩,
       ⟨(some 15), .mv (.t 42), none, [42], [], []⟩,
       ⟨(some 16), .mv (.t 43), none, [43], [], []⟩])
      (.seq (.reg [⟨(some 44), .mv (.t 10), none, [], [], []⟩,
        ⟨(some 45), .mv (.t 15), none, [15], [], []⟩,
        ⟨(some 46), .mv (.t 16), none, [16], [], []⟩,
        ⟨(some 47), .callv (.t 44) [.t 45, .t 46], none, [44, 45, 46, 47], [], []⟩])
       (.seq (.reg [⟨(some 49), .mv (.t 11), none, [], [], []⟩,
         ⟨(some 50), .callv (.t 49) [], none, [49], [], []⟩,
         ⟨(some 48), .mv (.t 50), none, [50], [], []⟩,
         ⟨(some 51), .ext (.t 48) 0, none, [], [], []⟩,
         ⟨(some 52), .ext (.t 48) 1, none, [48, 52], [], []⟩,
         ⟨(some 12), .mv (.t 51), none, [51], [], []⟩])
        (.seq (.reg [⟨(some 54), .mv (.t 12), none, [12], [], []⟩,
          ⟨(some 55), .call 60 [.t 54], none, [54], [], []⟩,
          ⟨(some 53), .mv (.t 55), none, [55], [], []⟩,
          ⟨(some 56), .ext (.t 53) 0, none, [], [], []⟩,
          ⟨(some 57), .ext (.t 53) 1, none, [], [], []⟩,
          ⟨(some 58), .ext (.t 53) 2, none, [53], [], []⟩,
          ⟨(some 17), .mv (.t 56), none, [56], [], []⟩,
          ⟨(some 15), .mv (.t 57), none, [57], [], []⟩,
          ⟨(some 16), .mv (.t 58), none, [58], [], []⟩])
         (.seq (.reg [⟨(some 59), .mv (.t 10), none, [], [], []⟩,
           ⟨(some 60), .mv (.t 15), none, [15], [], []⟩,
           ⟨(some 61), .mv (.t 16), none, [16], [], []⟩,
           ⟨(some 62), .callv (.t 59) [.t 60, .t 61], none, [59, 60, 61, 62], [], []⟩])
          (.seq (.reg [⟨(some 64), .mv (.t 11), none, [], [], []⟩,
            ⟨(some 65), .callv (.t 64) [], none, [64], [], []⟩,
            ⟨(some 63), .mv (.t 65), none, [65], [], []⟩,
            ⟨(some 66), .ext (.t 63) 0, none, [], [], []⟩,
            ⟨(some 67), .ext (.t 63) 1, none, [63, 67], [], []⟩,
            ⟨(some 12), .mv (.t 66), none, [66], [], []⟩])
           (.seq (.reg [⟨(some 69), .mv (.t 12), none, [12], [], []⟩,
             ⟨(some 70), .call 61 [.t 69], none, [69], [], []⟩,
             ⟨(some 68), .mv (.t 70), none, [70], [], []⟩,
             ⟨(some 71), .ext (.t 68) 0, none, [], [], []⟩,
             ⟨(some 72), .ext (.t 68) 1, none, [], [], []⟩,
             ⟨(some 73), .ext (.t 68) 2, none, [68], [], []⟩,
             ⟨(some 18), .mv (.t 71), none, [71], [], []⟩,
             ⟨(some 15), .mv (.t 72), none, [72], [], []⟩,
             ⟨(some 16), .mv (.t 73), none, [73], [], []⟩])
            (.seq (.reg [⟨(some 74), .mv (.t 10), none, [10], [], []⟩,
              ⟨(some 75), .mv (.t 15), none, [15], [], []⟩,
              ⟨(some 76), .mv (.t 16), none, [16], [], []⟩,
              ⟨(some 77), .callv (.t 74) [.t 75, .t 76], none, [74, 75, 76, 77], [], []⟩])
             (.seq (.reg [⟨(some 79), .mv (.t 11), none, [11], [], []⟩,
               ⟨(some 80), .callv (.t 79) [], none, [79], [], []⟩,
               ⟨(some 78), .mv (.t 80), none, [80], [], []⟩,
               ⟨(some 81), .ext (.t 78) 0, none, [], [], []⟩,
               ⟨(some 82), .ext (.t 78) 1, none, [78], [], []⟩,
               ⟨(some 12), .mv (.t 81), none, [81], [], []⟩,
               ⟨(some 16), .mv (.t 82), none, [82], [], []⟩])
              (.seq (.block 1 (.seq (.reg [⟨(some 84), .mv (.t 16), none, [], [], []⟩,
                  ⟨(some 85), .bin .neq (.t 84) (.c (.int .i64 0)), none, [84], [], []⟩,
                  ⟨(some 83), .mv (.t 85), none, [85], [], []⟩])
                 (.cond (.t 83) (.seq (.reg [⟨(some 86), .mv (.t 16), none, [16], [], []⟩,
                    ⟨(some 8), .mv (.c (.int .i64 0)), none, [], [], []⟩,
                    ⟨(some 9), .mv (.t 86), none, [86], [], []⟩])
                   (.ret))
                  (.seq (.reg [⟨(some 88), .mv (.t 12), none, [12], [], []⟩,
                    ⟨(some 89), .len false (.t 88), none, [88], [], []⟩,
                    ⟨(some 90), .bin .gtr (.t 89) (.c (.int .i64 0)), none, [89], [], []⟩,
                    ⟨(some 91), .mv (.t 90), none, [90], [], []⟩,
                    ⟨(some 92), .mv (.t 14), (some (91, false)), [], [], []⟩,
                    ⟨(some 93), .bin .lss (.t 92) (.c (.int .i64 0)), (some (91, false)), [92], [], []⟩,
                    ⟨(some 94), .pick (.t 91) (.c (.bool true)) (.t 93), none, [91, 93], [], []⟩,
                    ⟨(some 95), .mv (.t 94), none, [94], [], []⟩,
                    ⟨(some 96), .mv (.t 14), (some (95, false)), [], [], []⟩,
                    ⟨(some 97), .mv (.t 1), (some (95, false)), [], [], []⟩,
                    ⟨(some 98), .bin .shl (.c (.int .i64 1)) (.t 97), (some (95, false)), [97], [], []⟩,
                    ⟨(some 99), .bin .geq (.t 96) (.t 98), (some (95, false)), [96, 98], [], []⟩,
                    ⟨(some 100), .pick (.t 95) (.c (.bool true)) (.t 99), none, [95, 99], [], []⟩,
                    ⟨(some 101), .mv (.t 100), none, [100], [], []⟩,
                    ⟨(some 102), .mv (.t 18), (some (101, false)), [], [], []⟩,
                    ⟨(some 103), .len false (.t 102), (some (101, false)), [102], [], []⟩,
                    ⟨(some 104), .mv (.t 1), (some (101, false)), [], [], []⟩,
                    ⟨(some 105), .bin .neq (.t 103) (.t 104), (some (101, false)), [103, 104], [], []⟩,
                    ⟨(some 106), .pick (.t 101) (.c (.bool true)) (.t 105), none, [101, 105], [], []⟩,
                    ⟨(some 87), .mv (.t 106), none, [106], [], []⟩])
                   (.cond (.t 87) (.seq (.reg [⟨(some 8), .mv (.c (.int .i64 0)), none, [], [], []⟩,
                      ⟨(some 9), .mv (.c (.int .i64 6)), none, [], [], []⟩])
                     (.ret))
                    (.skip))))))
               (.seq (.reg [⟨(some 108), .load (some 16) (.t 4), none, [], [], []⟩,
                 ⟨(some 109), .mv (.t 14), none, [], [], []⟩,
                 ⟨(some 110), .mv (.t 2), none, [2], [], []⟩,
                 ⟨(some 111), .callp 63 [.t 108, .t 109, .t 110], none, [108, 109, 110], [], []⟩,
                 ⟨(some 112), .mv (.t 17), none, [17], [], []⟩,
                 ⟨(some 113), .callp 62 [.t 111, .t 112], none, [111, 112], [], []⟩,
                 ⟨(some 107), .mv (.t 113), none, [113], [], []⟩,
                 ⟨(some 114), .ext (.t 107) 0, none, [], [], []⟩,
                 ⟨(some 115), .ext (.t 107) 1, none, [107], [], []⟩,
                 ⟨(some 19), .new 36 [.int .u8 0, .int .u8 0, .int .u8 0, .int .u8 0, .int .u8 0, .int .u8 0, .int .u8 0, .int .u8 0, .int .u8 0, .int .u8 0, .int .u8 0, .int .u8 0, .int .u8 0, .int .u8 0, .int .u8 0, .int .u8 0], none, [], [], []⟩,
                 ⟨none, .store 16 (.t 19) (.t 114), none, [114], [], []⟩,
                 ⟨(some 16), .mv (.t 115), none, [115], [], []⟩])
                (.seq (.seq (.regP 9 [⟨(some 116), .mv (.t 16), none, [], [], []⟩,
                   ⟨(some 117), .bin .neq (.t 116) (.c (.int .i64 0)), none, [], [0], []⟩,
                   ⟨(some 118), .mv (.t 117), none, [], [0, 1], []⟩,
                   ⟨(some 119), .load (some 16) (.t 4), (some (118, false)), [], [0, 1, 2], [120, 121, 122, 123, 124]⟩,
                   ⟨(some 120), .mv (.t 1), (some (118, false)), [], [0, 1, 2], [119, 122, 123, 124]⟩,
                   ⟨(some 121), .bin .shl (.c (.int .i64 1)) (.t 120), (some (118, false)), [], [0, 1, 2, 4], [119, 122, 123, 124]⟩,
                   ⟨(some 122), .mv (.t 14), (some (118, false)), [], [0, 1, 2], [119, 120, 121, 123, 124]⟩,
                   ⟨(some 123), .load (some 16) (.t 19), (some (118, false)), [], [0, 1, 2], [119, 120, 121, 122, 124]⟩,
                   ⟨(some 124), .mv (.t 18), (some (118, false)), [1, 4, 16, 18, 19, 116, 117, 120], [0, 1, 2], [119, 120, 121, 122, 123]⟩,
                   ⟨(some 125), .call 64 [.t 119, .t 121, .t 122, .t 123, .t 124], (some (118, false)), [119, 121, 122, 123, 124], [0, 1, 2, 3, 4, 5, 6, 7, 8], []⟩,
                   ⟨(some 126), .un .not (.t 125), (some (118, false)), [125], [0, 1, 2, 3, 4, 5, 6, 7, 8, 9], []⟩,
                   ⟨(some 127), .pick (.t 118) (.c (.bool true)) (.t 126), none, [118, 126], [0, 1, 2, 3, 4, 5, 6, 7, 8, 9, 10], []⟩])
                  (.cond (.t 127) (.seq (.reg [⟨(some 8), .mv (.c (.int .i64 0)), none, [], [], []⟩,
                     ⟨(some 9), .mv (.c (.int .i64 8)), none, [], [], []⟩])
                    (.ret))
                   (.skip)))
                 (.seq (.reg [⟨(some 128), .mv (.t 14), none, [14], [], []⟩,
                   ⟨(some 8), .mv (.t 128), none, [128], [], []⟩,
                   ⟨(some 9), .mv (.c (.int .i64 0)), none, [], [], []⟩])
                  (.ret)))))))))))))))))⟩
theorem chk41 : chkF Tryd.prog 41 sf41 = true := by kernel_rfl
/-- custody/wire.GetInts -/
def sf43 : SF := ⟨45, [.t 2, .t 3, .t 4],
 .seq (.reg [⟨(some 2), .mv (.c (.val (.slice none 0 0))), none, [2], [], []⟩,
   ⟨(some 3), .mv (.c (.int .i64 0)), none, [3], [], []⟩,
   ⟨(some 4), .mv (.c (.int .i64 0)), none, [4], [], []⟩])
  (.seq (.reg [⟨(some 14), .mv (.t 0), none, [], [], []⟩,
    ⟨(some 15), .call 69 [.t 14, .c (.int .i64 1)], none, [14], [], []⟩,
    ⟨(some 13), .mv (.t 15), none, [15], [], []⟩,
    ⟨(some 16), .ext (.t 13) 0, none, [], [], []⟩,
    ⟨(some 17), .ext (.t 13) 1, none, [], [], []⟩,
    ⟨(some 18), .ext (.t 13) 2, none, [13], [], []⟩,
    ⟨(some 5), .mv (.t 16), none, [16], [], []⟩,
    ⟨(some 6), .mv (.t 17), none, [17], [], []⟩,
    ⟨(some 7), .mv (.t 18), none, [18], [], []⟩])
   (.seq (.seq (.reg [⟨(some 19), .mv (.t 7), none, [], [], []⟩,
      ⟨(some 20), .bin .neq (.t 19) (.c (.int .i64 0)), none, [19], [], []⟩])
     (.cond (.t 20) (.seq (.reg [⟨(some 21), .mv (.t 7), none, [7], [], []⟩,
        ⟨(some 2), .mv (.c (.val (.slice none 0 0))), none, [], [], []⟩,
        ⟨(some 3), .mv (.c (.int .i64 0)), none, [], [], []⟩,
        ⟨(some 4), .mv (.t 21), none, [21], [], []⟩])
       (.ret))
      (.skip)))
    (.seq (.reg [⟨(some 22), .mv (.t 0), none, [0], [], []⟩,
      ⟨(some 23), .mv (.t 6), none, [], [], []⟩,
      ⟨(some 24), .call 70 [.t 22, .t 23], none, [22, 23], [], []⟩,
      ⟨(some 8), .mv (.t 24), none, [24], [], []⟩])
     (.seq (.reg [⟨(some 9), .mv (.c (.val (.slice none 0 0))), none, [], [], []⟩])
      (.seq (.seq (.reg [⟨(some 25), .mv (.t 5), none, [5], [], []⟩,
         ⟨(some 26), .mv (.c (.int .i64 0)), none, [], [], []⟩])
        (.block 0 (.loop (.seq (.reg [⟨(some 27), .bin .lss (.t 26) (.t 25), none, [], [], []⟩])
           (.seq (.cond (.t 27) (.skip)
             (.exit 0))
            (.seq (.block 1 (.seq (.reg [⟨(some 29), .mv (.t 8), none, [], [], []⟩,
                ⟨(some 30), .callv (.t 29) [], none, [29], [], []⟩,
                ⟨(some 28), .mv (.t 30), none, [30], [], []⟩,
                ⟨(some 31), .ext (.t 28) 0, none, [], [], []⟩,
                ⟨(some 32), .ext (.t 28) 1, none, [], [], []⟩,
                ⟨(some 33), .ext (.t 28) 2, none, [28], [], []⟩,
                ⟨(some 10), .mv (.t 31), none, [31], [], []⟩,
                ⟨(some 11), .mv (.t 32), none, [32], [], []⟩,
                ⟨(some 12), .mv (.t 33), none, [33], [], []⟩])
               (.seq (.seq (.reg [⟨(some 34), .mv (.t 12), none, [], [], []⟩,
                  ⟨(some 35), .bin .neq (.t 34) (.c (.int .i64 0)), none, [34], [], []⟩])
                 (.cond (.t 35) (.seq (.reg [⟨(some 36), .mv (.t 12), none, [12], [], []⟩,
                    ⟨(some 2), .mv (.c (.val (.slice none 0 0))), none, [], [], []⟩,
                    ⟨(some 3), .mv (.c (.int .i64 0)), none, [], [], []⟩,
                    ⟨(some 4), .mv (.t 36), none, [36], [], []⟩])
                   (.ret))
                  (.skip)))
                (.reg [⟨(some 37), .mv (.t 9), none, [9], [], []⟩,
                 ⟨(some 38), .mv (.t 10), none, [10], [], []⟩,
                 ⟨(some 39), .bslice 3 1 1 [.int .i64 0] [(0, 1, .t 38)], none, [38], [], []⟩,
                 ⟨(some 40), .app 3 1 8 (.t 37) (.t 39), none, [37, 39], [], []⟩,
                 ⟨(some 41), .mv (.t 11), none, [11], [], []⟩,
                 ⟨(some 9), .mv (.t 40), none, [40], [], []⟩,
                 ⟨(some 6), .mv (.t 41), none, [41], [], []⟩]))))
             (.reg [⟨(some 42), .bin .add (.t 26) (.c (.int .i64 1)), none, [26], [], []⟩,
              ⟨(some 26), .mv (.t 42), none, [42], [], []⟩])))))))
       (.seq (.reg [⟨(some 43), .mv (.t 9), none, [9], [], []⟩,
         ⟨(some 44), .mv (.t 6), none, [6], [], []⟩,
         ⟨(some 2), .mv (.t 43), none, [43], [], []⟩,
         ⟨(some 3), .mv (.t 44), none, [44], [], []⟩,
         ⟨(some 4), .mv (.c (.int .i64 0)), none, [], [], []⟩])
        (.ret)))))))⟩
theorem chk43 : chkF Tryd.prog 43 sf43 = true := by kernel_rfl
/-- (*custody/custodian.reader).done -/
def sf44 : SF := ⟨30, [.t 6],
 .seq (.reg [⟨(some 6), .mv (.c (.bool false)), none, [6], [], []⟩])
  (.seq (.seq (.reg [⟨(some 7), .mv (.t 0), none, [], [], []⟩,
     ⟨(some 8), .nilc (.t 7), none, [7], [], []⟩,
     ⟨(some 9), .fld (.t 8) 1, none, [8], [], []⟩,
     ⟨(some 10), .load none (.t 9), none, [9], [], []⟩,
     ⟨(some 11), .bin .eql (.t 10) (.c (.int .i64 0)), none, [10], [], []⟩])
    (.cond (.t 11) (.reg [⟨(some 12), .mv (.t 0), none, [], [], []⟩,
      ⟨(some 13), .mv (.t 2), none, [2], [], []⟩,
      ⟨(some 14), .nilc (.t 12), none, [12], [], []⟩,
      ⟨(some 15), .fld (.t 14) 1, none, [14], [], []⟩,
      ⟨none, .store 1 (.t 15) (.t 13), none, [13, 15], [], []⟩])
     (.skip)))
   (.seq (.seq (.reg [⟨(some 16), .mv (.t 0), none, [], [], []⟩,
      ⟨(some 17), .nilc (.t 16), none, [16], [], []⟩,
      ⟨(some 18), .fld (.t 17) 1, none, [17], [], []⟩,
      ⟨(some 19), .load none (.t 18), none, [18], [], []⟩,
      ⟨(some 20), .bin .neq (.t 19) (.c (.int .i64 0)), none, [19], [], []⟩])
     (.cond (.t 20) (.seq (.reg [⟨(some 6), .mv (.c (.bool false)), none, [], [], []⟩])
       (.ret))
      (.skip)))
    (.seq (.reg [⟨(some 21), .mv (.t 0), none, [], [], []⟩,
      ⟨(some 22), .mv (.t 0), none, [0], [], []⟩,
      ⟨(some 23), .nilc (.t 22), none, [22], [], []⟩,
      ⟨(some 24), .fld (.t 23) 0, none, [23], [], []⟩,
      ⟨(some 25), .load none (.t 24), none, [24], [], []⟩,
      ⟨(some 26), .mv (.t 1), none, [1], [], []⟩,
      ⟨(some 27), .slcS 1 (.t 25) (some (.t 26)) none, none, [25, 26], [], []⟩,
      ⟨(some 28), .nilc (.t 21), none, [21], [], []⟩,
      ⟨(some 29), .fld (.t 28) 0, none, [28], [], []⟩,
      ⟨none, .store 1 (.t 29) (.t 27), none, [27, 29], [], []⟩])
     (.seq (.reg [⟨(some 6), .mv (.c (.bool true)), none, [], [], []⟩])
      (.ret)))))⟩
theorem chk44 : chkF Tryd.prog 44 sf44 = true := by kernel_rfl
/-- (*custody/custodian.reader).name -/
def sf45 : SF := ⟨24, [],
 .seq (.reg [⟨(some 8), .mv (.t 0), none, [], [], []⟩,
   ⟨(some 9), .nilc (.t 8), none, [8], [], []⟩,
   ⟨(some 10), .fld (.t 9) 0, none, [9], [], []⟩,
   ⟨(some 11), .load none (.t 10), none, [10], [], []⟩,
   ⟨(some 12), .call 60 [.t 11], none, [11], [], []⟩,
   ⟨(some 7), .mv (.t 12), none, [12], [], []⟩,
   ⟨(some 13), .ext (.t 7) 0, none, [], [], []⟩,
   ⟨(some 14), .ext (.t 7) 1, none, [], [], []⟩,
   ⟨(some 15), .ext (.t 7) 2, none, [7], [], []⟩,
   ⟨(some 4), .mv (.t 13), none, [13], [], []⟩,
   ⟨(some 5), .mv (.t 14), none, [14], [], []⟩,
   ⟨(some 6), .mv (.t 15), none, [15], [], []⟩])
  (.seq (.reg [⟨(some 16), .mv (.t 0), none, [0], [], []⟩,
    ⟨(some 17), .mv (.t 5), none, [5], [], []⟩,
    ⟨(some 18), .mv (.t 6), none, [6], [], []⟩,
    ⟨(some 19), .call 44 [.t 16, .t 17, .t 18], none, [16, 17, 18], [], []⟩])
   (.cond (.t 19) (.reg [⟨(some 20), .mv (.t 1), none, [1], [], []⟩,
     ⟨(some 21), .mv (.t 4), none, [4], [], []⟩,
     ⟨(some 22), .nilc (.t 20), none, [20], [], []⟩,
     ⟨(some 23), .fld (.t 22) 0, none, [22], [], []⟩,
     ⟨none, .store 1 (.t 23) (.t 21), none, [21, 23], [], []⟩])
    (.skip)))⟩
theorem chk45 : chkF Tryd.prog 45 sf45 = true := by kernel_rfl
/-- (*custody/custodian.reader).public -/
def sf46 : SF := ⟨43, [],
 .seq (.seq (.reg [⟨(some 4), .mv (.t 0), none, [], [], []⟩,
    ⟨(some 5), .nilc (.t 4), none, [4], [], []⟩,
    ⟨(some 6), .fld (.t 5) 1, none, [5], [], []⟩,
    ⟨(some 7), .load none (.t 6), none, [6], [], []⟩,
    ⟨(some 8), .bin .eql (.t 7) (.c (.int .i64 0)), none, [7], [], []⟩,
    ⟨(some 9), .mv (.t 8), none, [8], [], []⟩,
    ⟨(some 10), .mv (.t 0), (some (9, true)), [], [], []⟩,
    ⟨(some 11), .nilc (.t 10), (some (9, true)), [10], [], []⟩,
    ⟨(some 12), .fld (.t 11) 0, (some (9, true)), [11], [], []⟩,
    ⟨(some 13), .load none (.t 12), (some (9, true)), [12], [], []⟩,
    ⟨(some 14), .len false (.t 13), (some (9, true)), [13], [], []⟩,
    ⟨(some 15), .bin .lss (.t 14) (.c (.int .i64 16)), (some (9, true)), [14], [], []⟩,
    ⟨(some 16), .pick (.t 9) (.t 15) (.c (.bool false)), none, [9, 15], [], []⟩])
   (.cond (.t 16) (.reg [⟨(some 17), .mv (.t 0), none, [], [], []⟩,
     ⟨(some 18), .nilc (.t 17), none, [17], [], []⟩,
     ⟨(some 19), .fld (.t 18) 1, none, [18], [], []⟩,
     ⟨none, .store 1 (.t 19) (.c (.int .i64 5)), none, [19], [], []⟩])
    (.skip)))
  (.seq (.reg [⟨(some 20), .mv (.t 0), none, [], [], []⟩,
    ⟨(some 21), .nilc (.t 20), none, [20], [], []⟩,
    ⟨(some 22), .fld (.t 21) 1, none, [21], [], []⟩,
    ⟨(some 23), .load none (.t 22), none, [22], [], []⟩,
    ⟨(some 24), .bin .eql (.t 23) (.c (.int .i64 0)), none, [23], [], []⟩])
   (.cond (.t 24) (.seq (.reg [⟨(some 25), .mv (.t 1), none, [1], [], []⟩,
      ⟨(some 26), .mv (.t 0), none, [], [], []⟩,
      ⟨(some 27), .nilc (.t 26), none, [26], [], []⟩,
      ⟨(some 28), .fld (.t 27) 0, none, [27], [], []⟩,
      ⟨(some 29), .load none (.t 28), none, [28], [], []⟩,
      ⟨(some 30), .slcS 1 (.t 29) none (some (.c (.int .i64 16))), none, [29], [], []⟩,
      ⟨(some 31), .arrAt 16 (.t 30), none, [30], [], []⟩,
      ⟨(some 32), .load (some 16) (.t 31), none, [31], [], []⟩,
      ⟨(some 33), .nilc (.t 25), none, [25], [], []⟩,
      ⟨(some 34), .fld (.t 33) 1, none, [33], [], []⟩,
      ⟨none, .store 16 (.t 34) (.t 32), none, [32, 34], [], []⟩])
     (.reg [⟨(some 35), .mv (.t 0), none, [], [], []⟩,
      ⟨(some 36), .mv (.t 0), none, [0], [], []⟩,
      ⟨(some 37), .nilc (.t 36), none, [36], [], []⟩,
      ⟨(some 38), .fld (.t 37) 0, none, [37], [], []⟩,
      ⟨(some 39), .load none (.t 38), none, [38], [], []⟩,
      ⟨(some 40), .slcS 1 (.t 39) (some (.c (.int .i64 16))) none, none, [39], [], []⟩,
      ⟨(some 41), .nilc (.t 35), none, [35], [], []⟩,
      ⟨(some 42), .fld (.t 41) 0, none, [41], [], []⟩,
      ⟨none, .store 1 (.t 42) (.t 40), none, [40, 42], [], []⟩]))
    (.skip)))⟩
theorem chk46 : chkF Tryd.prog 46 sf46 = true := by kernel_rfl
/-- (*custody/custodian.reader).height -/
def sf47 : SF := ⟨24, [],
 .seq (.reg [⟨(some 8), .mv (.t 0), none, [], [], []⟩,
   ⟨(some 9), .nilc (.t 8), none, [8], [], []⟩,
   ⟨(some 10), .fld (.t 9) 0, none, [9], [], []⟩,
   ⟨(some 11), .load none (.t 10), none, [10], [], []⟩,
   ⟨(some 12), .call 59 [.t 11], none, [11], [], []⟩,
   ⟨(some 7), .mv (.t 12), none, [12], [], []⟩,
   ⟨(some 13), .ext (.t 7) 0, none, [], [], []⟩,
   ⟨(some 14), .ext (.t 7) 1, none, [], [], []⟩,
   ⟨(some 15), .ext (.t 7) 2, none, [7], [], []⟩,
   ⟨(some 4), .mv (.t 13), none, [13], [], []⟩,
   ⟨(some 5), .mv (.t 14), none, [14], [], []⟩,
   ⟨(some 6), .mv (.t 15), none, [15], [], []⟩])
  (.seq (.reg [⟨(some 16), .mv (.t 0), none, [0], [], []⟩,
    ⟨(some 17), .mv (.t 5), none, [5], [], []⟩,
    ⟨(some 18), .mv (.t 6), none, [6], [], []⟩,
    ⟨(some 19), .call 44 [.t 16, .t 17, .t 18], none, [16, 17, 18], [], []⟩])
   (.cond (.t 19) (.reg [⟨(some 20), .mv (.t 1), none, [1], [], []⟩,
     ⟨(some 21), .mv (.t 4), none, [4], [], []⟩,
     ⟨(some 22), .nilc (.t 20), none, [20], [], []⟩,
     ⟨(some 23), .fld (.t 22) 17, none, [22], [], []⟩,
     ⟨none, .store 1 (.t 23) (.t 21), none, [21, 23], [], []⟩])
    (.skip)))⟩
theorem chk47 : chkF Tryd.prog 47 sf47 = true := by kernel_rfl
/-- slices.Grow[[]byte,byte] -/
def sf51 : SF := ⟨27, [.t 4],
 .seq (.reg [⟨(some 4), .mv (.c (.val (.slice none 0 0))), none, [4], [], []⟩])
  (.seq (.seq (.reg [⟨(some 5), .mv (.t 1), none, [], [], []⟩,
     ⟨(some 6), .bin .lss (.t 5) (.c (.int .i64 0)), none, [5], [], []⟩])
    (.cond (.t 6) (.bad)
     (.skip)))
   (.seq (.seq (.reg [⟨(some 8), .mv (.t 1), none, [1], [], []⟩,
      ⟨(some 9), .mv (.t 0), none, [], [], []⟩,
      ⟨(some 10), .capN (.t 9), none, [9], [], []⟩,
      ⟨(some 11), .mv (.t 0), none, [], [], []⟩,
      ⟨(some 12), .len false (.t 11), none, [11], [], []⟩,
      ⟨(some 13), .bin .sub (.t 10) (.t 12), none, [10, 12], [], []⟩,
      ⟨(some 14), .bin .sub (.t 8) (.t 13), none, [8, 13], [], []⟩,
      ⟨(some 1), .mv (.t 14), none, [14], [], []⟩])
     (.seq (.reg [⟨(some 15), .mv (.t 1), none, [], [], []⟩,
       ⟨(some 16), .bin .gtr (.t 15) (.c (.int .i64 0)), none, [15], [], []⟩])
      (.cond (.t 16) (.reg [⟨(some 17), .mv (.t 0), none, [], [], []⟩,
        ⟨(some 18), .mv (.t 0), none, [], [], []⟩,
        ⟨(some 19), .capN (.t 18), none, [18], [], []⟩,
        ⟨(some 20), .slcS 1 (.t 17) none (some (.t 19)), none, [17, 19], [], []⟩,
        ⟨(some 21), .mv (.t 1), none, [1], [], []⟩,
        ⟨(some 22), .appZ 5 1 1 [.int .u8 0] (.t 20) (.t 21), none, [20, 21], [], []⟩,
        ⟨(some 23), .mv (.t 0), none, [0], [], []⟩,
        ⟨(some 24), .len false (.t 23), none, [23], [], []⟩,
        ⟨(some 25), .slcS 1 (.t 22) none (some (.t 24)), none, [22, 24], [], []⟩,
        ⟨(some 0), .mv (.t 25), none, [25], [], []⟩])
       (.skip))))
    (.seq (.reg [⟨(some 26), .mv (.t 0), none, [0], [], []⟩,
      ⟨(some 4), .mv (.t 26), none, [26], [], []⟩])
     (.ret))))⟩
theorem chk51 : chkF Tryd.prog 51 sf51 = true := by kernel_rfl
/-- custody/hash.Begin -/
def sf52 : SF := ⟨3, [.c 0 (some 73)],
 .seq (.reg [⟨(some 0), .new 86 [.int .u32 0, .int .u32 0, .int .u32 0, .int .u32 0, .int .u32 0, .int .u32 0, .int .u32 0, .int .u32 0, .int .u8 0, .int .u8 0, .int .u8 0, .int .u8 0, .int .u8 0, .int .u8 0, .int .u8 0, .int .u8 0, .int .u8 0, .int .u8 0, .int .u8 0, .int .u8 0, .int .u8 0, .int .u8 0, .int .u8 0, .int .u8 0, .int .u8 0, .int .u8 0, .int .u8 0, .int .u8 0, .int .u8 0, .int .u8 0, .int .u8 0, .int .u8 0, .int .u8 0, .int .u8 0, .int .u8 0, .int .u8 0, .int .u8 0, .int .u8 0, .int .u8 0, .int .u8 0, .int .u8 0, .int .u8 0, .int .u8 0, .int .u8 0, .int .u8 0, .int .u8 0, .int .u8 0, .int .u8 0, .int .u8 0, .int .u8 0, .int .u8 0, .int .u8 0, .int .u8 0, .int .u8 0, .int .u8 0, .int .u8 0, .int .u8 0, .int .u8 0, .int .u8 0, .int .u8 0, .int .u8 0, .int .u8 0, .int .u8 0, .int .u8 0, .int .u8 0, .int .u8 0, .int .u8 0, .int .u8 0, .int .u8 0, .int .u8 0, .int .u8 0, .int .u8 0, .int .u64 0], none, [], [], []⟩])
  (.seq (.reg [⟨(some 1), .build [.int .u32 0, .int .u32 0, .int .u32 0, .int .u32 0, .int .u32 0, .int .u32 0, .int .u32 0, .int .u32 0] [(0, 1, .c (.int .u32 1779033703)), (1, 1, .c (.int .u32 3144134277)), (2, 1, .c (.int .u32 1013904242)), (3, 1, .c (.int .u32 2773480762)), (4, 1, .c (.int .u32 1359893119)), (5, 1, .c (.int .u32 2600822924)), (6, 1, .c (.int .u32 528734635)), (7, 1, .c (.int .u32 1541459225))], none, [], [], []⟩,
    ⟨(some 2), .build [.int .u32 0, .int .u32 0, .int .u32 0, .int .u32 0, .int .u32 0, .int .u32 0, .int .u32 0, .int .u32 0, .int .u8 0, .int .u8 0, .int .u8 0, .int .u8 0, .int .u8 0, .int .u8 0, .int .u8 0, .int .u8 0, .int .u8 0, .int .u8 0, .int .u8 0, .int .u8 0, .int .u8 0, .int .u8 0, .int .u8 0, .int .u8 0, .int .u8 0, .int .u8 0, .int .u8 0, .int .u8 0, .int .u8 0, .int .u8 0, .int .u8 0, .int .u8 0, .int .u8 0, .int .u8 0, .int .u8 0, .int .u8 0, .int .u8 0, .int .u8 0, .int .u8 0, .int .u8 0, .int .u8 0, .int .u8 0, .int .u8 0, .int .u8 0, .int .u8 0, .int .u8 0, .int .u8 0, .int .u8 0, .int .u8 0, .int .u8 0, .int .u8 0, .int .u8 0, .int .u8 0, .int .u8 0, .int .u8 0, .int .u8 0, .int .u8 0, .int .u8 0, .int .u8 0, .int .u8 0, .int .u8 0, .int .u8 0, .int .u8 0, .int .u8 0, .int .u8 0, .int .u8 0, .int .u8 0, .int .u8 0, .int .u8 0, .int .u8 0, .int .u8 0, .int .u8 0, .int .u64 0] [(0, 8, .t 1)], none, [1], [], []⟩,
    ⟨none, .store 73 (.t 0) (.t 2), none, [2], [], []⟩])
   (.ret))⟩
theorem chk52 : chkF Tryd.prog 52 sf52 = true := by kernel_rfl
/-- (custody/hash.Stream).Add -/
def sf53 : SF := ⟨38, [.c 4 (some 73)],
 .seq (.reg [⟨(some 2), .box 86 (.t 0), none, [0], [], []⟩,
   ⟨(some 4), .new 86 [.int .u32 0, .int .u32 0, .int .u32 0, .int .u32 0, .int .u32 0, .int .u32 0, .int .u32 0, .int .u32 0, .int .u8 0, .int .u8 0, .int .u8 0, .int .u8 0, .int .u8 0, .int .u8 0, .int .u8 0, .int .u8 0, .int .u8 0, .int .u8 0, .int .u8 0, .int .u8 0, .int .u8 0, .int .u8 0, .int .u8 0, .int .u8 0, .int .u8 0, .int .u8 0, .int .u8 0, .int .u8 0, .int .u8 0, .int .u8 0, .int .u8 0, .int .u8 0, .int .u8 0, .int .u8 0, .int .u8 0, .int .u8 0, .int .u8 0, .int .u8 0, .int .u8 0, .int .u8 0, .int .u8 0, .int .u8 0, .int .u8 0, .int .u8 0, .int .u8 0, .int .u8 0, .int .u8 0, .int .u8 0, .int .u8 0, .int .u8 0, .int .u8 0, .int .u8 0, .int .u8 0, .int .u8 0, .int .u8 0, .int .u8 0, .int .u8 0, .int .u8 0, .int .u8 0, .int .u8 0, .int .u8 0, .int .u8 0, .int .u8 0, .int .u8 0, .int .u8 0, .int .u8 0, .int .u8 0, .int .u8 0, .int .u8 0, .int .u8 0, .int .u8 0, .int .u8 0, .int .u64 0], none, [], [], []⟩])
  (.seq (.block 0 (.loop (.seq (.seq (.reg [⟨(some 7), .mv (.t 1), none, [], [], []⟩,
        ⟨(some 8), .bin .neq (.t 7) (.c (.str [])), none, [7], [], []⟩])
       (.cond (.t 8) (.skip)
        (.exit 0)))
      (.block 1 (.seq (.reg [⟨(some 9), .fld (.t 2) 72, none, [], [], []⟩,
         ⟨(some 10), .load none (.t 9), none, [9], [], []⟩,
         ⟨(some 11), .bin .rem (.t 10) (.c (.int .u64 64)), none, [10], [], []⟩,
         ⟨(some 12), .conv .i64 (.t 11), none, [11], [], []⟩,
         ⟨(some 5), .mv (.t 12), none, [12], [], []⟩])
        (.seq (.reg [⟨(some 13), .fld (.t 2) 8, none, [], [], []⟩,
          ⟨(some 14), .mv (.t 5), none, [], [], []⟩,
          ⟨(some 15), .slcA 64 1 (.t 13) (some (.t 14)) none, none, [13, 14], [], []⟩,
          ⟨(some 16), .mv (.t 1), none, [], [], []⟩,
          ⟨(some 17), .copy 1 (.t 15) (.t 16), none, [15, 16], [], []⟩,
          ⟨(some 6), .mv (.t 17), none, [17], [], []⟩])
         (.seq (.reg [⟨(some 18), .mv (.t 1), none, [1], [], []⟩,
           ⟨(some 19), .mv (.t 6), none, [], [], []⟩,
           ⟨(some 20), .slcT (.t 18) (some (.t 19)) none, none, [18, 19], [], []⟩,
           ⟨(some 1), .mv (.t 20), none, [20], [], []⟩])
          (.seq (.reg [⟨(some 21), .fld (.t 2) 72, none, [], [], []⟩,
            ⟨(some 22), .load none (.t 21), none, [21], [], []⟩,
            ⟨(some 23), .mv (.t 6), none, [], [], []⟩,
            ⟨(some 24), .conv .u64 (.t 23), none, [23], [], []⟩,
            ⟨(some 25), .bin .add (.t 22) (.t 24), none, [22, 24], [], []⟩,
            ⟨(some 26), .fld (.t 2) 72, none, [], [], []⟩,
            ⟨none, .store 1 (.t 26) (.t 25), none, [25, 26], [], []⟩])
           (.seq (.reg [⟨(some 27), .mv (.t 5), none, [5], [], []⟩,
             ⟨(some 28), .mv (.t 6), none, [6], [], []⟩,
             ⟨(some 29), .bin .add (.t 27) (.t 28), none, [27, 28], [], []⟩,
             ⟨(some 30), .bin .eql (.t 29) (.c (.int .i64 64)), none, [29], [], []⟩])
            (.cond (.t 30) (.regD 4 [⟨(some 31), .fld (.t 2) 0, none, [], [], [33, 34]⟩,
              ⟨(some 32), .load (some 8) (.t 31), none, [], [0], [33, 34]⟩,
              ⟨(some 33), .fld (.t 2) 8, none, [], [], [31, 32]⟩,
              ⟨(some 34), .slcA 64 1 (.t 33) none none, none, [31, 33], [2], [31, 32]⟩,
              ⟨(some 35), .call 73 [.t 32, .t 34], none, [32, 34], [0, 1, 2, 3], []⟩,
              ⟨(some 36), .fld (.t 2) 0, none, [], [0, 1, 2, 3, 4], []⟩,
              ⟨none, .store 8 (.t 36) (.t 35), none, [35, 36], [0, 1, 2, 3, 4, 5], []⟩])
             (.skip)))))))))))
   (.seq (.reg [⟨(some 37), .load (some 73) (.t 2), none, [2], [], []⟩,
     ⟨none, .store 73 (.t 4) (.t 37), none, [37], [], []⟩])
    (.ret)))⟩
theorem chk53 : chkF Tryd.prog 53 sf53 = true := by kernel_rfl
/-- (custody/hash.Stream).Sum -/
def sf54 : SF := ⟨58, [.c 2 (some 32)],
 .seq (.reg [⟨(some 1), .box 86 (.t 0), none, [0], [], []⟩,
   ⟨(some 2), .new 89 [.int .u8 0, .int .u8 0, .int .u8 0, .int .u8 0, .int .u8 0, .int .u8 0, .int .u8 0, .int .u8 0, .int .u8 0, .int .u8 0, .int .u8 0, .int .u8 0, .int .u8 0, .int .u8 0, .int .u8 0, .int .u8 0, .int .u8 0, .int .u8 0, .int .u8 0, .int .u8 0, .int .u8 0, .int .u8 0, .int .u8 0, .int .u8 0, .int .u8 0, .int .u8 0, .int .u8 0, .int .u8 0, .int .u8 0, .int .u8 0, .int .u8 0, .int .u8 0], none, [], [], []⟩])
  (.seq (.reg [⟨(some 8), .fld (.t 1) 72, none, [], [], []⟩,
    ⟨(some 9), .load none (.t 8), none, [8], [], []⟩,
    ⟨(some 10), .bin .mul (.c (.int .u64 8)) (.t 9), none, [9], [], []⟩,
    ⟨(some 3), .mv (.t 10), none, [10], [], []⟩])
   (.seq (.reg [⟨(some 11), .bslice 5 1 1 [.int .u8 0] [(0, 1, .c (.int .u8 128))], none, [], [], []⟩,
     ⟨(some 4), .mv (.t 11), none, [11], [], []⟩])
    (.seq (.block 0 (.loop (.seq (.seq (.reg [⟨(some 12), .fld (.t 1) 72, none, [], [], []⟩,
          ⟨(some 13), .load none (.t 12), none, [12], [], []⟩,
          ⟨(some 14), .conv .i64 (.t 13), none, [13], [], []⟩,
          ⟨(some 15), .mv (.t 4), none, [], [], []⟩,
          ⟨(some 16), .len false (.t 15), none, [15], [], []⟩,
          ⟨(some 17), .bin .add (.t 14) (.t 16), none, [14, 16], [], []⟩,
          ⟨(some 18), .bin .rem (.t 17) (.c (.int .i64 64)), none, [17], [], []⟩,
          ⟨(some 19), .bin .neq (.t 18) (.c (.int .i64 56)), none, [18], [], []⟩])
         (.cond (.t 19) (.skip)
          (.exit 0)))
        (.block 1 (.reg [⟨(some 20), .mv (.t 4), none, [4], [], []⟩,
          ⟨(some 21), .bslice 5 1 1 [.int .u8 0] [(0, 1, .c (.int .u8 0))], none, [], [], []⟩,
          ⟨(some 22), .app 5 1 1 (.t 20) (.t 21), none, [20, 21], [], []⟩,
          ⟨(some 4), .mv (.t 22), none, [22], [], []⟩])))))
     (.seq (.seq (.reg [⟨(some 23), .mv (.c (.int .i64 0)), none, [], [], []⟩])
       (.block 2 (.loop (.seq (.reg [⟨(some 24), .bin .lss (.t 23) (.c (.int .i64 8)), none, [], [], []⟩])
          (.seq (.cond (.t 24) (.skip)
            (.exit 2))
           (.seq (.block 3 (.seq (.reg [⟨(some 25), .mv (.t 23), none, [], [], []⟩,
               ⟨(some 5), .mv (.t 25), none, [25], [], []⟩])
              (.reg [⟨(some 26), .mv (.t 4), none, [4], [], []⟩,
               ⟨(some 27), .mv (.t 3), none, [], [], []⟩,
               ⟨(some 28), .mv (.t 5), none, [5], [], []⟩,
               ⟨(some 29), .bin .mul (.c (.int .i64 8)) (.t 28), none, [28], [], []⟩,
               ⟨(some 30), .bin .sub (.c (.int .i64 56)) (.t 29), none, [29], [], []⟩,
               ⟨(some 31), .bin .shr (.t 27) (.t 30), none, [27, 30], [], []⟩,
               ⟨(some 32), .conv .u8 (.t 31), none, [31], [], []⟩,
               ⟨(some 33), .bslice 5 1 1 [.int .u8 0] [(0, 1, .t 32)], none, [32], [], []⟩,
               ⟨(some 34), .app 5 1 1 (.t 26) (.t 33), none, [26, 33], [], []⟩,
               ⟨(some 4), .mv (.t 34), none, [34], [], []⟩])))
            (.reg [⟨(some 35), .bin .add (.t 23) (.c (.int .i64 1)), none, [23], [], []⟩,
             ⟨(some 23), .mv (.t 35), none, [35], [], []⟩])))))))
      (.seq (.reg [⟨(some 36), .load (some 73) (.t 1), none, [], [], []⟩,
        ⟨(some 37), .mv (.t 4), none, [4], [], []⟩,
        ⟨(some 38), .b2s (.t 37), none, [37], [], []⟩,
        ⟨(some 39), .callp 53 [.t 36, .t 38], none, [36, 38], [], []⟩,
        ⟨none, .store 73 (.t 1) (.t 39), none, [39], [], []⟩])
       (.seq (.reg [⟨(some 6), .new 89 [.int .u8 0, .int .u8 0, .int .u8 0, .int .u8 0, .int .u8 0, .int .u8 0, .int .u8 0, .int .u8 0, .int .u8 0, .int .u8 0, .int .u8 0, .int .u8 0, .int .u8 0, .int .u8 0, .int .u8 0, .int .u8 0, .int .u8 0, .int .u8 0, .int .u8 0, .int .u8 0, .int .u8 0, .int .u8 0, .int .u8 0, .int .u8 0, .int .u8 0, .int .u8 0, .int .u8 0, .int .u8 0, .int .u8 0, .int .u8 0, .int .u8 0, .int .u8 0], none, [], [], []⟩])
        (.seq (.seq (.reg [⟨(some 40), .mv (.c (.int .i64 0)), none, [], [], []⟩])
          (.block 4 (.loop (.seq (.reg [⟨(some 41), .bin .lss (.t 40) (.c (.int .i64 32)), none, [], [], []⟩])
             (.seq (.cond (.t 41) (.skip)
               (.exit 4))
              (.seq (.block 5 (.seq (.reg [⟨(some 42), .mv (.t 40), none, [], [], []⟩,
                  ⟨(some 7), .mv (.t 42), none, [42], [], []⟩])
                 (.reg [⟨(some 43), .mv (.t 7), none, [], [], []⟩,
                  ⟨(some 44), .mv (.t 7), none, [], [], []⟩,
                  ⟨(some 45), .bin .quo (.t 44) (.c (.int .i64 4)), none, [44], [], []⟩,
                  ⟨(some 46), .fld (.t 1) 0, none, [], [], []⟩,
                  ⟨(some 47), .idxA (.t 46) (.t 45) 8 1, none, [45, 46], [], []⟩,
                  ⟨(some 48), .load none (.t 47), none, [47], [], []⟩,
                  ⟨(some 49), .mv (.t 7), none, [7], [], []⟩,
                  ⟨(some 50), .bin .rem (.t 49) (.c (.int .i64 4)), none, [49], [], []⟩,
                  ⟨(some 51), .bin .mul (.c (.int .i64 8)) (.t 50), none, [50], [], []⟩,
                  ⟨(some 52), .bin .sub (.c (.int .i64 24)) (.t 51), none, [51], [], []⟩,
                  ⟨(some 53), .bin .shr (.t 48) (.t 52), none, [48, 52], [], []⟩,
                  ⟨(some 54), .conv .u8 (.t 53), none, [53], [], []⟩,
                  ⟨(some 55), .idxA (.t 6) (.t 43) 32 1, none, [43], [], []⟩,
                  ⟨none, .store 1 (.t 55) (.t 54), none, [54, 55], [], []⟩])))
               (.reg [⟨(some 56), .bin .add (.t 40) (.c (.int .i64 1)), none, [40], [], []⟩,
                ⟨(some 40), .mv (.t 56), none, [56], [], []⟩])))))))
         (.seq (.reg [⟨(some 57), .load (some 32) (.t 6), none, [6], [], []⟩,
           ⟨none, .store 32 (.t 2) (.t 57), none, [57], [], []⟩])
          (.ret)))))))))⟩
theorem chk54 : chkF Tryd.prog 54 sf54 = true := by kernel_rfl
/-- custody/treesig.isHeight -/
def sf57 : SF := ⟨9, [.t 2],
 .seq (.reg [⟨(some 2), .mv (.c (.bool false)), none, [2], [], []⟩])
  (.seq (.reg [⟨(some 3), .mv (.t 0), none, [], [], []⟩,
    ⟨(some 4), .bin .geq (.t 3) (.c (.int .i64 0)), none, [3], [], []⟩,
    ⟨(some 5), .mv (.t 4), none, [4], [], []⟩,
    ⟨(some 6), .mv (.t 0), (some (5, true)), [0], [], []⟩,
    ⟨(some 7), .bin .leq (.t 6) (.c (.int .i64 6)), (some (5, true)), [6], [], []⟩,
    ⟨(some 8), .pick (.t 5) (.t 7) (.c (.bool false)), none, [5, 7], [], []⟩,
    ⟨(some 2), .mv (.t 8), none, [8], [], []⟩])
   (.ret))⟩
theorem chk57 : chkF Tryd.prog 57 sf57 = true := by kernel_rfl
/-- custody/treesig.reader -/
def sf58 : SF := ⟨12, [.t 2, .t 3],
 .seq (.reg [⟨(some 2), .mv (.c (.val .nilFunc)), none, [2], [], []⟩,
   ⟨(some 3), .mv (.c (.val .nilFunc)), none, [3], [], []⟩])
  (.seq (.reg [⟨(some 7), .mv (.t 0), none, [0], [], []⟩,
    ⟨(some 8), .s2b 5 (.t 7), none, [7], [], []⟩,
    ⟨(some 4), .new 56 [.val (.slice none 0 0)], none, [], [], []⟩,
    ⟨(some 5), .new 27 [.int .i64 0], none, [], [], []⟩,
    ⟨none, .store 1 (.t 4) (.t 8), none, [8], [], []⟩,
    ⟨none, .store 1 (.t 5) (.c (.int .i64 0)), none, [], [], []⟩])
   (.seq (.reg [⟨(some 9), .mkfn 75 [] [.t 5, .t 4], none, [], [], []⟩,
     ⟨(some 6), .mv (.t 9), none, [9], [], []⟩])
    (.seq (.reg [⟨(some 10), .mv (.t 6), none, [6], [], []⟩,
      ⟨(some 11), .mkfn 76 [] [.t 4, .t 5], none, [4, 5], [], []⟩,
      ⟨(some 2), .mv (.t 10), none, [10], [], []⟩,
      ⟨(some 3), .mv (.t 11), none, [11], [], []⟩])
     (.ret))))⟩
theorem chk58 : chkF Tryd.prog 58 sf58 = true := by kernel_rfl
/-- custody/wire.GetInt -/
def sf59 : SF := ⟨71, [.t 2, .t 3, .t 4],
 .seq (.reg [⟨(some 2), .mv (.c (.int .i64 0)), none, [2], [], []⟩,
   ⟨(some 3), .mv (.c (.int .i64 0)), none, [3], [], []⟩,
   ⟨(some 4), .mv (.c (.int .i64 0)), none, [4], [], []⟩])
  (.seq (.seq (.reg [⟨(some 10), .mv (.t 0), none, [], [], []⟩,
     ⟨(some 11), .len false (.t 10), none, [10], [], []⟩,
     ⟨(some 12), .bin .eql (.t 11) (.c (.int .i64 0)), none, [11], [], []⟩])
    (.cond (.t 12) (.seq (.reg [⟨(some 2), .mv (.c (.int .i64 0)), none, [], [], []⟩,
       ⟨(some 3), .mv (.c (.int .i64 0)), none, [], [], []⟩,
       ⟨(some 4), .mv (.c (.int .i64 5)), none, [], [], []⟩])
      (.ret))
     (.skip)))
   (.seq (.reg [⟨(some 5), .mv (.c (.int .u8 0)), none, [], [], []⟩])
    (.seq (.seq (.reg [⟨(some 13), .mv (.t 0), none, [], [], []⟩,
       ⟨(some 14), .idxS (.t 13) (.c (.int .i64 0)) 1, none, [13], [], []⟩,
       ⟨(some 15), .load none (.t 14), none, [14], [], []⟩,
       ⟨(some 16), .bin .lss (.t 15) (.c (.int .u8 128)), none, [15], [], []⟩])
      (.cond (.t 16) (.reg [⟨(some 5), .mv (.c (.int .u8 255)), none, [], [], []⟩])
       (.skip)))
     (.seq (.reg [⟨(some 17), .mv (.t 0), none, [], [], []⟩,
       ⟨(some 18), .idxS (.t 17) (.c (.int .i64 0)) 1, none, [17], [], []⟩,
       ⟨(some 19), .load none (.t 18), none, [18], [], []⟩,
       ⟨(some 20), .mv (.t 5), none, [], [], []⟩,
       ⟨(some 21), .bin .xor (.t 19) (.t 20), none, [19, 20], [], []⟩,
       ⟨(some 22), .conv .i64 (.t 21), none, [21], [], []⟩,
       ⟨(some 23), .bin .sub (.t 22) (.c (.int .i64 128)), none, [22], [], []⟩,
       ⟨(some 6), .mv (.t 23), none, [23], [], []⟩])
      (.seq (.block 0 (.seq (.reg [⟨(some 25), .mv (.t 6), none, [], [], []⟩,
          ⟨(some 26), .bin .gtr (.t 25) (.c (.int .i64 8)), none, [25], [], []⟩,
          ⟨(some 24), .mv (.t 26), none, [26], [], []⟩])
         (.cond (.t 24) (.seq (.reg [⟨(some 2), .mv (.c (.int .i64 0)), none, [], [], []⟩,
            ⟨(some 3), .mv (.c (.int .i64 0)), none, [], [], []⟩,
            ⟨(some 4), .mv (.c (.int .i64 6)), none, [], [], []⟩])
           (.ret))
          (.seq (.reg [⟨(some 28), .mv (.t 0), none, [], [], []⟩,
            ⟨(some 29), .len false (.t 28), none, [28], [], []⟩,
            ⟨(some 30), .mv (.t 6), none, [], [], []⟩,
            ⟨(some 31), .bin .leq (.t 29) (.t 30), none, [29, 30], [], []⟩,
            ⟨(some 27), .mv (.t 31), none, [31], [], []⟩])
           (.cond (.t 27) (.seq (.reg [⟨(some 2), .mv (.c (.int .i64 0)), none, [], [], []⟩,
              ⟨(some 3), .mv (.c (.int .i64 0)), none, [], [], []⟩,
              ⟨(some 4), .mv (.c (.int .i64 5)), none, [], [], []⟩])
             (.ret))
            (.seq (.reg [⟨(some 33), .mv (.t 6), none, [], [], []⟩,
              ⟨(some 34), .bin .gtr (.t 33) (.c (.int .i64 0)), none, [33], [], []⟩,
              ⟨(some 35), .mv (.t 34), none, [34], [], []⟩,
              ⟨(some 36), .mv (.t 0), (some (35, true)), [], [], []⟩,
              ⟨(some 37), .idxS (.t 36) (.c (.int .i64 1)) 1, (some (35, true)), [36], [], []⟩,
              ⟨(some 38), .load none (.t 37), (some (35, true)), [37], [], []⟩,
              ⟨(some 39), .mv (.t 5), (some (35, true)), [], [], []⟩,
              ⟨(some 40), .bin .xor (.t 38) (.t 39), (some (35, true)), [38, 39], [], []⟩,
              ⟨(some 41), .bin .eql (.t 40) (.c (.int .u8 0)), (some (35, true)), [40], [], []⟩,
              ⟨(some 42), .pick (.t 35) (.t 41) (.c (.bool false)), none, [35, 41], [], []⟩,
              ⟨(some 32), .mv (.t 42), none, [42], [], []⟩])
             (.cond (.t 32) (.seq (.reg [⟨(some 2), .mv (.c (.int .i64 0)), none, [], [], []⟩,
                ⟨(some 3), .mv (.c (.int .i64 0)), none, [], [], []⟩,
                ⟨(some 4), .mv (.c (.int .i64 6)), none, [], [], []⟩])
               (.ret))
              (.skip))))))))
       (.seq (.reg [⟨(some 7), .mv (.c (.int .u64 0)), none, [], [], []⟩])
        (.seq (.seq (.reg [⟨(some 43), .mv (.t 0), none, [0], [], []⟩,
           ⟨(some 44), .mv (.t 6), none, [], [], []⟩,
           ⟨(some 45), .bin .add (.t 44) (.c (.int .i64 1)), none, [44], [], []⟩,
           ⟨(some 46), .slcS 1 (.t 43) (some (.c (.int .i64 1))) (some (.t 45)), none, [43, 45], [], []⟩,
           ⟨(some 47), .len false (.t 46), none, [], [], []⟩,
           ⟨(some 48), .mv (.c (.int .i64 0)), none, [], [], []⟩])
          (.block 1 (.loop (.seq (.reg [⟨(some 49), .bin .lss (.t 48) (.t 47), none, [], [], []⟩])
             (.seq (.cond (.t 49) (.skip)
               (.exit 1))
              (.seq (.block 2 (.seq (.reg [⟨(some 50), .idxS (.t 46) (.t 48) 1, none, [], [], []⟩,
                  ⟨(some 51), .load none (.t 50), none, [50], [], []⟩,
                  ⟨(some 9), .mv (.t 51), none, [51], [], []⟩])
                 (.reg [⟨(some 52), .mv (.t 7), none, [7], [], []⟩,
                  ⟨(some 53), .bin .shl (.t 52) (.c (.int .u64 8)), none, [52], [], []⟩,
                  ⟨(some 54), .mv (.t 9), none, [9], [], []⟩,
                  ⟨(some 55), .mv (.t 5), none, [], [], []⟩,
                  ⟨(some 56), .bin .xor (.t 54) (.t 55), none, [54, 55], [], []⟩,
                  ⟨(some 57), .conv .u64 (.t 56), none, [56], [], []⟩,
                  ⟨(some 58), .bin .or (.t 53) (.t 57), none, [53, 57], [], []⟩,
                  ⟨(some 7), .mv (.t 58), none, [58], [], []⟩])))
               (.reg [⟨(some 59), .bin .add (.t 48) (.c (.int .i64 1)), none, [48], [], []⟩,
                ⟨(some 48), .mv (.t 59), none, [59], [], []⟩])))))))
         (.seq (.seq (.reg [⟨(some 60), .mv (.t 7), none, [], [], []⟩,
            ⟨(some 61), .bin .shr (.t 60) (.c (.int .u64 63)), none, [60], [], []⟩,
            ⟨(some 62), .bin .gtr (.t 61) (.c (.int .u64 0)), none, [61], [], []⟩])
           (.cond (.t 62) (.seq (.reg [⟨(some 2), .mv (.c (.int .i64 0)), none, [], [], []⟩,
              ⟨(some 3), .mv (.c (.int .i64 0)), none, [], [], []⟩,
              ⟨(some 4), .mv (.c (.int .i64 6)), none, [], [], []⟩])
             (.ret))
            (.skip)))
          (.seq (.seq (.reg [⟨(some 63), .mv (.t 5), none, [5], [], []⟩,
             ⟨(some 64), .bin .gtr (.t 63) (.c (.int .u8 0)), none, [63], [], []⟩])
            (.cond (.t 64) (.reg [⟨(some 65), .mv (.t 7), none, [7], [], []⟩,
              ⟨(some 66), .un .xor (.t 65), none, [65], [], []⟩,
              ⟨(some 7), .mv (.t 66), none, [66], [], []⟩])
             (.skip)))
           (.seq (.reg [⟨(some 67), .mv (.t 7), none, [7], [], []⟩,
             ⟨(some 68), .conv .i64 (.t 67), none, [67], [], []⟩,
             ⟨(some 69), .mv (.t 6), none, [6], [], []⟩,
             ⟨(some 70), .bin .add (.t 69) (.c (.int .i64 1)), none, [69], [], []⟩,
             ⟨(some 2), .mv (.t 68), none, [68], [], []⟩,
             ⟨(some 3), .mv (.t 70), none, [70], [], []⟩,
             ⟨(some 4), .mv (.c (.int .i64 0)), none, [], [], []⟩])
            (.ret)))))))))))⟩
theorem chk59 : chkF Tryd.prog 59 sf59 = true := by kernel_rfl
/-- custody/wire.GetBytes -/
def sf60 : SF := ⟨27, [.t 2, .t 3, .t 4],
 .seq (.reg [⟨(some 2), .mv (.c (.str [])), none, [2], [], []⟩,
   ⟨(some 3), .mv (.c (.int .i64 0)), none, [3], [], []⟩,
   ⟨(some 4), .mv (.c (.int .i64 0)), none, [4], [], []⟩])
  (.seq (.reg [⟨(some 9), .mv (.t 0), none, [], [], []⟩,
    ⟨(some 10), .call 69 [.t 9, .c (.int .i64 1)], none, [9], [], []⟩,
    ⟨(some 8), .mv (.t 10), none, [10], [], []⟩,
    ⟨(some 11), .ext (.t 8) 0, none, [], [], []⟩,
    ⟨(some 12), .ext (.t 8) 1, none, [], [], []⟩,
    ⟨(some 13), .ext (.t 8) 2, none, [8], [], []⟩,
    ⟨(some 5), .mv (.t 11), none, [11], [], []⟩,
    ⟨(some 6), .mv (.t 12), none, [12], [], []⟩,
    ⟨(some 7), .mv (.t 13), none, [13], [], []⟩])
   (.seq (.seq (.reg [⟨(some 14), .mv (.t 7), none, [], [], []⟩,
      ⟨(some 15), .bin .neq (.t 14) (.c (.int .i64 0)), none, [14], [], []⟩])
     (.cond (.t 15) (.seq (.reg [⟨(some 16), .mv (.t 7), none, [7], [], []⟩,
        ⟨(some 2), .mv (.c (.str [])), none, [], [], []⟩,
        ⟨(some 3), .mv (.c (.int .i64 0)), none, [], [], []⟩,
        ⟨(some 4), .mv (.t 16), none, [16], [], []⟩])
       (.ret))
      (.skip)))
    (.seq (.reg [⟨(some 17), .mv (.t 0), none, [0], [], []⟩,
      ⟨(some 18), .mv (.t 6), none, [], [], []⟩,
      ⟨(some 19), .mv (.t 6), none, [], [], []⟩,
      ⟨(some 20), .mv (.t 5), none, [], [], []⟩,
      ⟨(some 21), .bin .add (.t 19) (.t 20), none, [19, 20], [], []⟩,
      ⟨(some 22), .slcS 1 (.t 17) (some (.t 18)) (some (.t 21)), none, [17, 18, 21], [], []⟩,
      ⟨(some 23), .b2s (.t 22), none, [22], [], []⟩,
      ⟨(some 24), .mv (.t 6), none, [6], [], []⟩,
      ⟨(some 25), .mv (.t 5), none, [5], [], []⟩,
      ⟨(some 26), .bin .add (.t 24) (.t 25), none, [24, 25], [], []⟩,
      ⟨(some 2), .mv (.t 23), none, [23], [], []⟩,
      ⟨(some 3), .mv (.t 26), none, [26], [], []⟩,
      ⟨(some 4), .mv (.c (.int .i64 0)), none, [], [], []⟩])
     (.ret))))⟩
theorem chk60 : chkF Tryd.prog 60 sf60 = true := by kernel_rfl
/-- custody/wire.GetDigests -/
def sf61 : SF := ⟨36, [.t 2, .t 3, .t 4],
 .seq (.reg [⟨(some 2), .mv (.c (.val (.slice none 0 0))), none, [2], [], []⟩,
   ⟨(some 3), .mv (.c (.int .i64 0)), none, [3], [], []⟩,
   ⟨(some 4), .mv (.c (.int .i64 0)), none, [4], [], []⟩])
  (.seq (.reg [⟨(some 10), .mv (.t 0), none, [], [], []⟩,
    ⟨(some 11), .call 69 [.t 10, .c (.int .i64 16)], none, [10], [], []⟩,
    ⟨(some 9), .mv (.t 11), none, [11], [], []⟩,
    ⟨(some 12), .ext (.t 9) 0, none, [], [], []⟩,
    ⟨(some 13), .ext (.t 9) 1, none, [], [], []⟩,
    ⟨(some 14), .ext (.t 9) 2, none, [9], [], []⟩,
    ⟨(some 5), .mv (.t 12), none, [12], [], []⟩,
    ⟨(some 6), .mv (.t 13), none, [13], [], []⟩,
    ⟨(some 7), .mv (.t 14), none, [14], [], []⟩])
   (.seq (.seq (.reg [⟨(some 15), .mv (.t 7), none, [], [], []⟩,
      ⟨(some 16), .bin .neq (.t 15) (.c (.int .i64 0)), none, [15], [], []⟩])
     (.cond (.t 16) (.seq (.reg [⟨(some 17), .mv (.t 7), none, [7], [], []⟩,
        ⟨(some 2), .mv (.c (.val (.slice none 0 0))), none, [], [], []⟩,
        ⟨(some 3), .mv (.c (.int .i64 0)), none, [], [], []⟩,
        ⟨(some 4), .mv (.t 17), none, [17], [], []⟩])
       (.ret))
      (.skip)))
    (.seq (.reg [⟨(some 8), .mv (.c (.val (.slice none 0 0))), none, [], [], []⟩])
     (.seq (.seq (.reg [⟨(some 18), .mv (.t 5), none, [5], [], []⟩,
        ⟨(some 19), .mv (.c (.int .i64 0)), none, [], [], []⟩])
       (.block 0 (.loop (.seq (.reg [⟨(some 20), .bin .lss (.t 19) (.t 18), none, [], [], []⟩])
          (.seq (.cond (.t 20) (.skip)
            (.exit 0))
           (.seq (.block 1 (.seq (.reg [⟨(some 21), .mv (.t 8), none, [8], [], []⟩,
               ⟨(some 22), .mv (.t 0), none, [], [], []⟩,
               ⟨(some 23), .mv (.t 6), none, [], [], []⟩,
               ⟨(some 24), .mv (.t 6), none, [], [], []⟩,
               ⟨(some 25), .bin .add (.t 24) (.c (.int .i64 16)), none, [24], [], []⟩,
               ⟨(some 26), .slcS 1 (.t 22) (some (.t 23)) (some (.t 25)), none, [22, 23, 25], [], []⟩,
               ⟨(some 27), .arrAt 16 (.t 26), none, [26], [], []⟩,
               ⟨(some 28), .load (some 16) (.t 27), none, [27], [], []⟩,
               ⟨(some 29), .bslice 36 16 1 [.int .u8 0, .int .u8 0, .int .u8 0, .int .u8 0, .int .u8 0, .int .u8 0, .int .u8 0, .int .u8 0, .int .u8 0, .int .u8 0, .int .u8 0, .int .u8 0, .int .u8 0, .int .u8 0, .int .u8 0, .int .u8 0] [(0, 16, .t 28)], none, [28], [], []⟩,
               ⟨(some 30), .app 36 16 16 (.t 21) (.t 29), none, [21, 29], [], []⟩,
               ⟨(some 8), .mv (.t 30), none, [30], [], []⟩])
              (.reg [⟨(some 31), .mv (.t 6), none, [6], [], []⟩,
               ⟨(some 32), .bin .add (.t 31) (.c (.int .i64 16)), none, [31], [], []⟩,
               ⟨(some 6), .mv (.t 32), none, [32], [], []⟩])))
            (.reg [⟨(some 33), .bin .add (.t 19) (.c (.int .i64 1)), none, [19], [], []⟩,
             ⟨(some 19), .mv (.t 33), none, [33], [], []⟩])))))))
      (.seq (.reg [⟨(some 34), .mv (.t 8), none, [8], [], []⟩,
        ⟨(some 35), .mv (.t 6), none, [6], [], []⟩,
        ⟨(some 2), .mv (.t 34), none, [34], [], []⟩,
        ⟨(some 3), .mv (.t 35), none, [35], [], []⟩,
        ⟨(some 4), .mv (.c (.int .i64 0)), none, [], [], []⟩])
       (.ret))))))⟩
theorem chk61 : chkF Tryd.prog 61 sf61 = true := by kernel_rfl
end Go.Proofs.YtkfbkooobfepeaaDoor.Sf

/- The engine, part Xs: calls of functions by canonical arguments: slices, pointers and closures in blocks of their own. -/
namespace Go.Sx
open Go
set_option linter.unusedSimpArgs false
set_option linter.unusedVariables false

abbrev CanR (α : Type) := Option (α × List (Nat × Nat) × Mem)

def canLW (f : Nat → SV → CanR SV) : Nat → List SV → CanR (List SV)
  | _, [] => some ([], [], [])
  | k, a :: l => match f k a with
    | some (a', hs, m0) => match canLW f (k + hs.length) l with
      | some (l', hs', m0') => some (a' :: l', hs ++ hs', m0 ++ m0')
      | none => none
    | none => none
def canC (f : Nat → SV → CanR SV) (k : Nat) (cells : List SV) : CanR (List SV) :=
  match SV.flatL cells with
  | true => some (cells, [], [])
  | false => canLW f k cells

-- a value with what it refers to in blocks of their own, numbered from k on
def canV (m : Mem) : Nat → Nat → SV → CanR SV
  | 0, _, _ => none
  | d + 1, k, .slc i o s len cap => match rd m i with
    | some B => if o + len * s ≤ B.cells.length then (match canC (canV m d) (k + 1) ((B.cells.drop o).take (len * s)) with
        | some (cs, hs, m0) => some (.slc k 0 s len cap, (i, o) :: hs, (k, ⟨.view, cs⟩) :: m0)
        | none => none) else none
    | none => none
  | d + 1, k, .ptr i o => match rd m i with
    | some ⟨.own e, cells⟩ => match canC (canV m d) (k + 1) cells with
      | some (cs, hs, m0) => some (.ptr k o, (i, 0) :: hs, (k, ⟨.own e, cs⟩) :: m0)
      | none => none
    | _ => none
  | d + 1, k, .agg l => match canC (canV m d) k l with
    | some (l', hs, m0) => some (.agg l', hs, m0)
    | none => none
  | d + 1, k, .fn f xs bs => match canC (canV m d) k xs with
    | some (xs', hs, m0) => match canC (canV m d) (k + hs.length) bs with
      | some (bs', hs', m0') => some (.fn f xs' bs', hs ++ hs', m0 ++ m0')
      | none => none
    | none => none
  | _ + 1, _, .int kd n => some (.int kd n, [], [])
  | _ + 1, _, .bool b => some (.bool b, [], [])
  | _ + 1, _, .str s => some (.str s, [], [])
  | _ + 1, _, .val v => some (.val v, [], [])
  | _ + 1, _, .gp g o => some (.gp g o, [], [])
  | _ + 1, _, _ => none

structure CanOk (m : Mem) (k n : Nat) (hs : List (Nat × Nat)) (m0 : Mem) (all : List (Nat × Nat)) : Prop where
  len : m0.length = hs.length
  com : compat (eta all n) m m0
  key : ∀ (j : Nat) x, m0[j]? = some x → x.1 = k + j

def At (all hs : List (Nat × Nat)) (k : Nat) : Prop := ∀ j, j < hs.length → all[k + j]? = hs[j]?

theorem At.left {all a b : List (Nat × Nat)} {k : Nat} (h : At all (a ++ b) k) : At all a k := fun j hj => by
  rw [h j (by simp; omega), List.getElem?_append_left hj]
theorem At.right {all a b : List (Nat × Nat)} {k : Nat} (h : At all (a ++ b) k) : At all b (k + a.length) := fun j hj => by
  have := h (a.length + j) (by simp; omega)
  rw [List.getElem?_append_right (by omega), Nat.add_sub_cancel_left] at this
  rw [← this, Nat.add_assoc]

theorem compat_app {η : Nat → Nat × Nat} {m : Mem} : ∀ {a b : Mem}, compat η m a → compat η m b → compat η m (a ++ b)
  | [], b, _, h => h
  | x :: a, b, h, h' => by
    obtain ⟨i, B⟩ := x
    simp only [List.cons_append, compat] at h ⊢
    exact ⟨h.1, compat_app h.2 h'⟩

theorem CanOk.app {m : Mem} {k n : Nat} {hs hs' : List (Nat × Nat)} {m0 m0' : Mem} {all : List (Nat × Nat)} (h : CanOk m k n hs m0 all) (h' : CanOk m (k + hs.length) n hs' m0' all) :
    CanOk m k n (hs ++ hs') (m0 ++ m0') all where
  len := by simp [h.len, h'.len]
  com := compat_app h.com h'.com
  key := fun j x hx => by
    by_cases hj : j < m0.length
    · rw [List.getElem?_append_left hj] at hx; exact h.key j x hx
    · rw [List.getElem?_append_right (by omega)] at hx
      have := h'.key _ x hx
      have := h.len
      omega

theorem CanOk.nil {m : Mem} {k n : Nat} {all : List (Nat × Nat)} : CanOk m k n [] [] all := ⟨rfl, trivial, by simp⟩

def CanF (m : Mem) (n : Nat) (f : Nat → SV → CanR SV) : Prop := ∀ k a a' hs m0, f k a = some (a', hs, m0) → ∀ all, At all hs k → a'.ren (eta all n) = a ∧ CanOk m k n hs m0 all

theorem canLW_ok {m : Mem} {n : Nat} {f : Nat → SV → CanR SV} (hf : CanF m n f) : ∀ {l : List SV} {k : Nat} {l' : List SV} {hs : List (Nat × Nat)} {m0 : Mem}, canLW f k l = some (l', hs, m0) →
    ∀ all, At all hs k → SV.renL (eta all n) l' = l ∧ CanOk m k n hs m0 all
  | [], k, l', hs, m0, h, all, ha => by simp only [canLW] at h; cases h; exact ⟨by simp only [SV.renL], .nil⟩
  | a :: l, k, l', hs, m0, h, all, ha => by
    simp only [canLW] at h
    split at h
    · rename_i a1 hs1 m1 h1
      split at h
      · rename_i l2 hs2 m2 h2
        cases h
        obtain ⟨e1, k1⟩ := hf _ _ _ _ _ h1 all ha.left
        obtain ⟨e2, k2⟩ := canLW_ok hf h2 all ha.right
        exact ⟨by simp only [SV.renL, e1, e2], k1.app k2⟩
      · cases h
    · cases h
theorem canC_ok {m : Mem} {n : Nat} {f : Nat → SV → CanR SV} (hf : CanF m n f) {l : List SV} {k : Nat} {l' : List SV} {hs : List (Nat × Nat)} {m0 : Mem} (h : canC f k l = some (l', hs, m0)) :
    ∀ all, At all hs k → SV.renL (eta all n) l' = l ∧ CanOk m k n hs m0 all := by
  intro all ha
  unfold canC at h
  split at h
  · rename_i hfl
    cases h
    exact ⟨SV.flatL_ren _ _ hfl, .nil⟩
  · exact canLW_ok hf h all ha

theorem eta_at {all hs : List (Nat × Nat)} {k n : Nat} {h : Nat × Nat} (ha : At all (h :: hs) k) : eta all n k = h := by
  have h0 := ha 0 (by simp)
  simp only [Nat.add_zero, List.getElem?_cons_zero] at h0
  unfold eta; rw [h0]; rfl
theorem At.tail {all hs : List (Nat × Nat)} {k : Nat} {h : Nat × Nat} (ha : At all (h :: hs) k) : At all hs (k + 1) := fun j hj => by
  have := ha (j + 1) (by simp; omega)
  rw [List.getElem?_cons_succ] at this
  rw [← this, show k + 1 + j = k + (j + 1) by omega]
theorem CanOk.cons {m : Mem} {k n : Nat} {hs : List (Nat × Nat)} {m0 : Mem} {all : List (Nat × Nat)} {h : Nat × Nat} {B : Blk} (hc : CanOk m (k + 1) n hs m0 all)
    (hB : ∃ D, rd m (eta all n k).1 = some D ∧
      match B.kind with
      | .view => (eta all n k).2 + B.cells.length ≤ D.cells.length ∧ SV.renL (eta all n) B.cells = (D.cells.drop (eta all n k).2).take B.cells.length
      | _ => (eta all n k).2 = 0 ∧ D.kind = B.kind ∧ D.cells = SV.renL (eta all n) B.cells) : CanOk m k n (h :: hs) ((k, B) :: m0) all where
  len := by simp [hc.len]
  com := ⟨hB, hc.com⟩
  key := fun j x hx => by
    cases j with
    | zero => simp at hx; rw [← hx]; rfl
    | succ j => have := hc.key j x (by simpa using hx); omega

theorem canV_ok {m : Mem} {n : Nat} : ∀ d, CanF m n (canV m d)
  | 0 => fun k a a' hs m0 h => by simp [canV] at h
  | d + 1 => fun k a a' hs m0 h all ha => by
    have ih := canV_ok (m := m) (n := n) d
    cases a with
    | slc i o s len cap =>
      simp only [canV] at h
      split at h
      · rename_i B hB
        split at h
        · rename_i hle
          split at h
          · rename_i cs hs1 m1 hc
            cases h
            obtain ⟨e1, k1⟩ := canC_ok ih hc all ha.tail
            have he : eta all n k = (i, o) := eta_at ha
            have hl : cs.length = len * s := by
              have := congrArg List.length e1
              rw [SV.renL_eq] at this
              simp at this; omega
            refine ⟨by simp only [SV.ren, he, Nat.add_zero], k1.cons ⟨B, by rw [he]; exact hB, ?_⟩⟩
            rw [he]
            exact ⟨by rw [hl]; exact hle, by rw [hl]; exact e1⟩
          · cases h
        · cases h
      · cases h
    | ptr i o =>
      simp only [canV] at h
      split at h
      · rename_i e cells hB
        split at h
        · rename_i cs hs1 m1 hc
          cases h
          obtain ⟨e1, k1⟩ := canC_ok ih hc all ha.tail
          have he : eta all n k = (i, 0) := eta_at ha
          refine ⟨by simp only [SV.ren, he, Nat.zero_add], k1.cons ⟨_, by rw [he]; exact hB, ?_⟩⟩
          rw [he]
          exact ⟨rfl, rfl, e1.symm⟩
        · cases h
      · cases h
    | agg l =>
      simp only [canV] at h
      split at h
      · rename_i l' hs1 m1 hc
        cases h
        obtain ⟨e1, k1⟩ := canC_ok ih hc all ha
        exact ⟨by simp only [SV.ren, e1], k1⟩
      · cases h
    | fn f xs bs =>
      simp only [canV] at h
      split at h
      · rename_i l' hs1 m1 hc
        split at h
        · rename_i l2 hs2 m2 hc2
          cases h
          obtain ⟨e1, k1⟩ := canC_ok ih hc all ha.left
          obtain ⟨e2, k2⟩ := canC_ok ih hc2 all ha.right
          exact ⟨by simp only [SV.ren, e1, e2], k1.app k2⟩
        · cases h
      · cases h
    | int kd x => simp only [canV] at h; cases h; exact ⟨by simp only [SV.ren], .nil⟩
    | bool x => simp only [canV] at h; cases h; exact ⟨by simp only [SV.ren], .nil⟩
    | str x => simp only [canV] at h; cases h; exact ⟨by simp only [SV.ren], .nil⟩
    | val x => simp only [canV] at h; cases h; exact ⟨by simp only [SV.ren], .nil⟩
    | gp g o => simp only [canV] at h; cases h; exact ⟨by simp only [SV.ren], .nil⟩
    | any => simp only [canV] at h; cases h
    | tup l => simp only [canV] at h; cases h
    | mp i => simp only [canV] at h; cases h

/-- blocks of ours are not named twice -/
def apH1 (t : Nat) (o : Bool) : List (Nat × Nat) → Mem → Prop
  | h :: hs, (_, B) :: r => ((o || B.kind.isOwn) = true → t ≠ h.1) ∧ apH1 t o hs r
  | _, _ => True
def apH : List (Nat × Nat) → Mem → Prop
  | h :: hs, (_, B) :: r => apH1 h.1 B.kind.isOwn hs r ∧ apH hs r
  | _, _ => True
theorem apH1_get {t : Nat} {o : Bool} : ∀ {hs : List (Nat × Nat)} {m : Mem}, apH1 t o hs m → ∀ (j : Nat) h x, hs[j]? = some h → m[j]? = some x → (o || x.2.kind.isOwn) = true → t ≠ h.1
  | h :: hs, (i, B) :: r, ha, j, h', x, h1, h2, ho => by
    simp only [apH1] at ha
    cases j with
    | zero => simp at h1 h2; subst h1; subst h2; exact ha.1 ho
    | succ j => exact apH1_get ha.2 j h' x (by simpa using h1) (by simpa using h2) ho
  | [], _, _, j, h', x, h1, _, _ => by simp at h1
  | _ :: _, [], _, j, h', x, _, h2, _ => by simp at h2
theorem apartM_of {all : List (Nat × Nat)} {n : Nat} : ∀ {hs : List (Nat × Nat)} {m : Mem} {k : Nat}, At all hs k → m.length = hs.length → (∀ (j : Nat) x, m[j]? = some x → x.1 = k + j) → apH hs m → apartM (eta all n) m
  | _, [], _, _, _, _, _ => trivial
  | [], _ :: _, _, _, h, _, _ => by simp at h
  | h :: hs, (i, B) :: r, k, ha, hl, hk, hap => by
    simp only [apH] at hap
    have hi : i = k := by have := hk 0 _ rfl; simpa using this
    subst hi
    refine ⟨fun x hx ho => ?_, apartM_of ha.tail (by simpa using hl) (fun j x hx => by have := hk (j + 1) x (by simpa using hx); omega) hap.2⟩
    obtain ⟨j, hj, hxj⟩ := List.mem_iff_getElem.1 hx
    have hxj' : r[j]? = some x := by rw [List.getElem?_eq_getElem hj, hxj]
    have hjh : j < hs.length := by simp at hl; omega
    have hxk : x.1 = i + 1 + j := by have := hk (j + 1) x (by simpa using hxj'); omega
    rw [eta_at ha, hxk]
    have : all[i + 1 + j]? = hs[j]? := ha.tail j hjh
    unfold eta
    rw [this, List.getElem?_eq_getElem hjh]
    exact apH1_get hap.1 j hs[j] x (List.getElem?_eq_getElem hjh) hxj' ho

theorem keysBelow_of {k : Nat} : ∀ {m0 : Mem}, (∀ i B, (i, B) ∈ m0 → i < k) → keysBelow k m0
  | [], _ => trivial
  | (i, B) :: r, h => by
    simp only [keysBelow]
    exact ⟨h i B List.mem_cons_self, keysBelow_of fun j B' hj => h j B' (List.mem_cons_of_mem _ hj)⟩
theorem zeroSh_of {η : Nat → Nat × Nat} : ∀ {m1 : Mem}, (∀ i B, (i, B) ∈ m1 → B.own → (η i).2 = 0) → zeroSh η m1
  | [], _ => trivial
  | (i, B) :: r, h => by
    simp only [zeroSh]
    exact ⟨fun ho => h i B List.mem_cons_self (isOwn_own ho), zeroSh_of fun j B' hj => h j B' (List.mem_cons_of_mem _ hj)⟩

abbrev GS := List SV → Mem → Option (SV × Mem × Nat)
def freshB (k : Nat) (m0 : Mem) : Mem → Prop
  | [] => True
  | (i, B) :: r => (k ≤ i ∨ ∃ B', (i, B') ∈ m0 ∧ B'.own) ∧ freshB k m0 r
theorem freshB_get {k : Nat} {m0 : Mem} : ∀ {m1 : Mem}, freshB k m0 m1 → ∀ i B, (i, B) ∈ m1 → k ≤ i ∨ ∃ B', (i, B') ∈ m0 ∧ B'.own
  | (j, D) :: r, h, i, B, hi => by
    simp only [freshB] at h
    rcases List.mem_cons.1 hi with e | e
    · cases e; exact h.1
    · exact freshB_get h.2 i B e
/-- what is known of a function of values and slices -/
def FunS (P : Program) (T : List (Nat × List SV)) (f : FuncId) (g : GS) : Prop :=
  ∀ a0 m0 r m1 n1, g a0 m0 = some (r, m1, n1) → Fun P T f a0 m0 m0.length r m1 n1 ∧ freshB m0.length m0 m1

def belowL (n : Nat) : List (Nat × Nat) → Prop
  | [] => True
  | h :: r => h.1 < n ∧ belowL n r
theorem belowL_mem {n : Nat} : ∀ {hs : List (Nat × Nat)}, belowL n hs → ∀ h ∈ hs, h.1 < n
  | x :: r, hb, h, hm => by
    simp only [belowL] at hb
    rcases List.mem_cons.1 hm with e | e
    · rw [e]; exact hb.1
    · exact belowL_mem hb.2 h e

def callS (S : List (FuncId × GS)) (c : CallT) : CallT := fun f args m n K =>
  match lookF S f with
  | some g => (match canLW (canV m 4) 0 args with
    | some (a0, hs, m0) => belowL n hs ∧ apH hs m0 ∧ (match g a0 m0 with
      | some (r0, m1, n1) => K (r0.ren (eta hs n)) (newOwn (eta hs n) m1 ++ rms m (targets (eta hs n) m0)) (n + (n1 - hs.length))
      | none => False)
    | none => False)
  | none => c f args m n K
theorem u_callS {S : List (FuncId × GS)} {c : CallT} {f : FuncId} {args : List SV} {m : Mem} {n : Nat} {K : Kt} : callS S c f args m n K = (match lookF S f with
  | some g => (match canLW (canV m 4) 0 args with
    | some (a0, hs, m0) => belowL n hs ∧ apH hs m0 ∧ (match g a0 m0 with
      | some (r0, m1, n1) => K (r0.ren (eta hs n)) (newOwn (eta hs n) m1 ++ rms m (targets (eta hs n) m0)) (n + (n1 - hs.length))
      | none => False)
    | none => False)
  | none => c f args m n K) := (rfl)

theorem callS_one {P : Program} {T : List (Nat × List SV)} {f : FuncId} {g : GS} (hg : FunS P T f g) {args : List SV} {m : Mem} {n : Nat} {K : Kt} {a0 : List SV} {hs : List (Nat × Nat)} {m0 : Mem} {r0 : SV} {m1 : Mem} {n1 : Nat}
    (hcan : canLW (canV m 4) 0 args = some (a0, hs, m0)) (hb : belowL n hs) (hap : apH hs m0) (hr : g a0 m0 = some (r0, m1, n1))
    (hK : K (r0.ren (eta hs n)) (newOwn (eta hs n) m1 ++ rms m (targets (eta hs n) m0)) (n + (n1 - hs.length))) : callT P T f args m n K := by
  obtain ⟨F, hnew⟩ := hg _ _ _ _ _ hr
  have hat : At hs hs 0 := fun j hj => by rw [Nat.zero_add]
  obtain ⟨e1, k1⟩ := canLW_ok (canV_ok (m := m) (n := n) 4) hcan hs hat
  rw [k1.len] at F hnew
  refine ⟨hs, a0, m0, r0, m1, n1, F, e1.symm, k1.com, apartM_of hat k1.len k1.key hap, keysBelow_of fun i B hi => ?_, belowL_mem hb, zeroSh_of fun i B hi ho => ?_, hK⟩
  · obtain ⟨j, hj, hxj⟩ := List.mem_iff_getElem.1 hi
    have := k1.key j _ (by rw [List.getElem?_eq_getElem hj, hxj])
    have := k1.len
    simp only at *
    omega
  · rcases freshB_get hnew i B hi with h | ⟨B', h, ho'⟩
    · rw [eta_ge h]
    · exact (compat_own k1.com h ho').choose_spec.2.1

theorem callS_ok {P : Program} {T : List (Nat × List SV)} {S : List (FuncId × GS)} {c : CallT} (hS : ∀ x ∈ S, FunS P T x.1 x.2) (hc : ∀ f a m n K, c f a m n K → callT P T f a m n K) :
    ∀ f a m n K, callS S c f a m n K → callT P T f a m n K := by
  intro f args m n K h
  unfold callS at h
  split at h
  · rename_i g hg
    split at h
    · rename_i a0 hs m0 hcan
      obtain ⟨hb, hap, h⟩ := h
      split at h
      · rename_i r0 m1 n1 hr
        exact callS_one (hS _ (lookF_mem hg)) hcan hb hap hr h
      · exact h.elim
    · exact h.elim
  · exact hc _ _ _ _ _ h

/-- the value and the memory behind a function -/
def finE (T : List (Nat × List SV)) (n0 : Nat) (res : List RV) (r : SV) (m' : Mem) (n' : Nat) : Post := fun e fr m n =>
  match e with
  | .exit _ => False
  | _ => evRes T fr res m n fun l m1 n1 => ∃ hs, EntM n0 m1 n1 hs m' n' ∧ retOf l = r.ren (eta hs n1)
section
variable {T : List (Nat × List SV)} {n0 : Nat} {res : List RV} {r : SV} {m' : Mem} {n' : Nat} {fr : Fr} {m : Mem} {n j : Nat}
theorem finE_r : finE T n0 res r m' n' .ret fr m n = evRes T fr res m n fun l m1 n1 => ∃ hs, EntM n0 m1 n1 hs m' n' ∧ retOf l = r.ren (eta hs n1) := (rfl)
theorem finE_n : finE T n0 res r m' n' .normal fr m n = evRes T fr res m n fun l m1 n1 => ∃ hs, EntM n0 m1 n1 hs m' n' ∧ retOf l = r.ren (eta hs n1) := (rfl)
theorem finE_x : finE T n0 res r m' n' (.exit j) fr m n = False := (rfl)
end
/-- THE RULE FOR A FUNCTION -/
theorem fun_any {P : Program} {T : List (Nat × List SV)} (u : Option Nat) (c1 : CallT) (hF : ∀ f a m n K, c1 f a m n K → callT P T f a m n K) {f : FuncId} {sf : SF} {args : List SV} {m0 : Mem} {n0 : Nat} {r : SV} {m' : Mem} {n' : Nat}
    (hc : chkF P f sf = true) (hlen : args.length ≤ sf.n) (hn : n0 ≤ n')
    (h : den T c1 (callT P T) u n0 (finE T n0 sf.res r m' n') [.c sf.body] .normal (frOf 0 args) m0 n0) : Fun P T f args m0 n0 r m' n' := by
  refine fun_of_exec hc hlen hn (exC_mono (callT_point P T) _ _ _ _ _ _ (exC_of_ev hF (callT_point P T) _ _ _ _ _ h) fun e fr m n h => ?_)
  cases e with
  | normal => exact exRes_of_ev h
  | exit j => exact h
  | ret => exact exRes_of_ev h
end Go.Sx

/- The engine, part Xb: bys as cells. -/
namespace Go.Sx
open Go
set_option linter.unusedSimpArgs false
set_option linter.unusedVariables false

def bys (l : List UInt8) : List SV := l.map SV.byte
theorem map_byte (l : List UInt8) : List.map SV.byte l = bys l := (rfl)
theorem flat_bytes : ∀ b : List UInt8, SV.flatL (bys b) = true
  | [] => rfl
  | n :: b => by simp only [bys, List.map_cons, SV.flatL, SV.byte, SV.flat, Bool.true_and]; exact flat_bytes b
theorem ren_bytes (η : Nat → Nat × Nat) (b : List UInt8) : SV.renL η (bys b) = bys b := SV.flatL_ren η _ (flat_bytes b)
theorem len_bytes (b : List UInt8) : (bys b).length = b.length := by simp [bys]
def unB (l : List SV) : Option (List UInt8) := match l.all isByte with
  | true => some (l.map Sx.byteOf)
  | false => none
theorem isByte_byte (c : UInt8) : isByte (SV.byte c) = true := by
  simp only [isByte, SV.byte, decide_eq_true_eq]
  have := c.toNat_lt
  omega
theorem byte_cells (c : UInt8) : (SV.byte c).cells? = some [SV.byte c] := (rfl)
theorem one_byte (c : UInt8) : [SV.byte c] = bys [c] := (rfl)
theorem nil_bytes : bys [] = [] := (rfl)
theorem byte_ren (η : Nat → Nat × Nat) (c : UInt8) : (SV.byte c).ren η = SV.byte c := (rfl)
theorem take_bytes (b : List UInt8) : List.take b.length (bys b) = bys b := List.take_of_length_le (by simp [bys])
theorem bytes_app (a b : List UInt8) : bys a ++ bys b = bys (a ++ b) := by simp [bys]
theorem bytes_app1 (a : List UInt8) (c : UInt8) : bys a ++ [SV.byte c] = bys (a ++ [c]) := by simp [bys]
theorem byteOf_byte (c : UInt8) : Sx.byteOf (SV.byte c) = c := by simp [Sx.byteOf, SV.byte]
theorem isU8_byte (c : UInt8) : isU8 (SV.byte c) = true := rfl
theorem all_isU8 (b : List UInt8) : (bys b).all isU8 = true := by
  simp [bys, List.all_eq_true, isU8_byte]
theorem map_byteOf (b : List UInt8) : (bys b).map Sx.byteOf = b := by
  simp only [bys, List.map_map]
  rw [show (Sx.byteOf ∘ SV.byte) = id from funext byteOf_byte, List.map_id]
theorem unB_bytes (b : List UInt8) : unB (bys b) = some b := by
  have : (bys b).all isByte = true := by simp [bys, List.all_eq_true, isByte_byte]
  unfold unB
  rw [this, map_byteOf]
theorem byte_of {v : SV} (h : isByte v = true) : SV.byte (Sx.byteOf v) = v := by
  cases v <;> simp only [isByte] at h <;> first | cases h | skip
  rename_i k n
  cases k <;> simp only at h <;> first | cases h | skip
  simp only [decide_eq_true_eq] at h
  simp only [SV.byte, Sx.byteOf]
  congr 1
  have : n.toNat < 256 := by omega
  simp only [UInt8.toNat_ofNat']
  omega
theorem unB_some {l : List SV} {b : List UInt8} (h : unB l = some b) : l = bys b := by
  unfold unB at h
  split at h
  · rename_i ha
    cases h
    simp only [bys, List.map_map]
    rw [List.all_eq_true] at ha
    exact (List.map_id l).symm.trans (List.map_congr_left fun v hv => (byte_of (ha v hv)).symm)
  · cases h
theorem wrapU8_rng (x : Int) : 0 ≤ IntKind.u8.wrap x ∧ IntKind.u8.wrap x < 256 := by
  simp only [IntKind.wrap, IntKind.bits, IntKind.signed]
  simp
  omega
theorem u8_byte {x : Int} (h : 0 ≤ x ∧ x < 256) : SV.int .u8 x = SV.byte (UInt8.ofNat x.toNat) := by
  have := byte_of (v := .int .u8 x) (by simp only [isByte]; exact decide_eq_true h)
  exact this.symm
/-- a byte with some of its bits turned -/
def flipB (x f : Int) : UInt8 := UInt8.ofNat (bitop .xor .u8 x f).toNat
theorem flipB_sv (x f : Int) : SV.int .u8 (bitop .xor .u8 x f) = SV.byte (flipB x f) := u8_byte (wrapU8_rng _)
def wrapB (x : Int) : UInt8 := UInt8.ofNat (IntKind.u8.wrap x).toNat
theorem wrapB_sv (x : Int) : SV.int .u8 (IntKind.u8.wrap x) = SV.byte (wrapB x) := u8_byte (wrapU8_rng _)

theorem wrap64_eq {x : Int} (h1 : -9223372036854775808 ≤ x) (h2 : x ≤ 9223372036854775807) : IntKind.i64.wrap x = x := wrap64 h1 h2
/-- no calls at all -/
def cF : CallT := fun _ _ _ _ _ => False
theorem cF_ok {P : Program} {T : List (Nat × List SV)} : ∀ f a m n K, cF f a m n K → callT P T f a m n K := fun _ _ _ _ _ h => h.elim
def ints (l : List Int) : List SV := l.map (.int .i64)
theorem flat_ints : ∀ b : List Int, SV.flatL (ints b) = true
  | [] => rfl
  | n :: b => by simp only [ints, List.map_cons, SV.flatL, SV.flat, Bool.true_and]; exact flat_ints b
theorem ren_ints (η : Nat → Nat × Nat) (b : List Int) : SV.renL η (ints b) = ints b := SV.flatL_ren η _ (flat_ints b)
theorem len_ints (b : List Int) : (ints b).length = b.length := by simp [ints]
theorem take_ints (b : List Int) : List.take b.length (ints b) = ints b := List.take_of_length_le (by simp [ints])
theorem get_ints {b : List Int} {i : Nat} {x : Int} (h : b[i]? = some x) : (ints b)[i]? = some (.int .i64 x) := by simp [ints, h]
theorem get_bys {b : List UInt8} {i : Nat} {x : UInt8} (h : b[i]? = some x) : (bys b)[i]? = some (SV.byte x) := by simp [bys, h]
theorem get_bysI {b : List UInt8} {i : Nat} {x : UInt8} (h : b[i]? = some x) : (bys b)[i]? = some (.int .u8 (x.toNat : Int)) := get_bys h
theorem byte_I (x : UInt8) : SV.int .u8 (x.toNat : Int) = SV.byte x := (rfl)
theorem take_succ_rev {b : List UInt8} {i : Nat} {x : UInt8} (hi : i ≠ 0) (h : b[i - 1]? = some x) : (b.take i).reverse = x :: (b.take (i - 1)).reverse := by
  obtain ⟨j, rfl⟩ : ∃ j, i = j + 1 := ⟨i - 1, by omega⟩
  simp only [Nat.add_sub_cancel] at h ⊢
  rw [List.take_add_one, h]
  simp
def unI : List SV → Option (List Int)
  | [] => some []
  | .int .i64 n :: l => match unI l with
    | some r => some (n :: r)
    | none => none
  | _ => none
theorem unI_ints : ∀ b : List Int, unI (ints b) = some b
  | [] => rfl
  | n :: b => by simp only [ints, List.map_cons, unI]; rw [show List.map (SV.int .i64) b = ints b from rfl, unI_ints b]
theorem unI_some : ∀ {l : List SV} {b : List Int}, unI l = some b → l = ints b
  | [], b, h => by simp only [unI] at h; cases h; rfl
  | x :: l, b, h => by
    unfold unI at h
    split at h
    · rename_i he; cases he
    · rename_i n l' he
      cases he
      split at h
      · rename_i r hr; cases h; rw [unI_some hr]; rfl
      · cases h
    · cases h
/-- a slice's capacity, if it is told, is not less than its length -/
def CapOk (cap : Option Nat) (len : Nat) : Prop := ∀ c, cap = some c → len ≤ c
def capB : Option Nat → Nat → Bool
  | none, _ => true
  | some c, n => Nat.ble n c
theorem capB_ok {cap : Option Nat} {n : Nat} (h : capB cap n = true) : CapOk cap n := by
  intro c hc
  subst hc
  exact Nat.le_of_ble_eq_true h
/-- a slice that begins as nil -/
def nlS (i s : Nat) : Nat → SV
  | 0 => .val (.slice none 0 0)
  | k + 1 => .slc i 0 s (k + 1) none
def nlM (i : Nat) (e : TypeId) (cells : List SV) (m : Mem) : Nat → Mem
  | 0 => m
  | _ + 1 => (i, ⟨.own e, cells⟩) :: m
def nlN (i : Nat) : Nat → Nat
  | 0 => i
  | _ + 1 => i + 1
section
variable {i s k : Nat} {e : TypeId} {cells : List SV} {m : Mem}
theorem nlS_0 : nlS i s 0 = .val (.slice none 0 0) := (rfl)
theorem nlS_1 : nlS i s (k + 1) = .slc i 0 s (k + 1) none := (rfl)
theorem nlM_0 : nlM i e cells m 0 = m := (rfl)
theorem nlM_1 : nlM i e cells m (k + 1) = (i, ⟨.own e, cells⟩) :: m := (rfl)
theorem nlN_0 : nlN i 0 = i := (rfl)
theorem nlN_1 : nlN i (k + 1) = i + 1 := (rfl)
end
theorem take_bys1 (c : UInt8) (l : List UInt8) : List.take (l.length + 1) (bys (c :: l)) = bys (c :: l) := take_bytes (c :: l)
end Go.Sx
