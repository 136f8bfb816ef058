/- The engine, part V: the evaluator: a stack of code, its steps in the form that simp can carry out. -/
import Derived.Test.YtflkcganpgjkkaaDoorEngU
namespace Go.Sx
open Go
set_option linter.unusedSimpArgs false
set_option linter.unusedVariables false

def lookT : List (Nat × List SV) → Nat → Option (List SV)
  | [], _ => none
  | (g, cs) :: r, h => if g = h then some cs else lookT r h
theorem lookT_mem : ∀ {T : List (Nat × List SV)} {g : Nat} {cs : List SV}, lookT T g = some cs → (g, cs) ∈ T
  | (g', cs') :: r, g, cs, h => by
    unfold lookT at h
    split at h
    · rename_i e; subst e; cases h; exact List.mem_cons_self
    · exact List.mem_cons_of_mem _ (lookT_mem h)

def fillE (fr : Fr) : List SV → List (Nat × Nat × Opd) → (List SV → Prop) → Prop
  | cs, [], F => F cs
  | cs, (off, size, x) :: r, F => match (x.ev fr).cells? with
    | some l => l.length = size ∧ off + size ≤ cs.length ∧ fillE fr (splice cs off l) r F
    | none => False
theorem fillS_of {fr : Fr} : ∀ {ps : List (Nat × Nat × Opd)} {cs : List SV} {F : List SV → Prop}, fillE fr cs ps F → fillS fr cs ps F
  | [], _, _, h => h
  | (off, size, x) :: r, cs, F, h => by
    unfold fillE at h
    unfold fillS
    split at h
    · rename_i l hl; exact ⟨l, hl, h.1, h.2.1, fillS_of h.2.2⟩
    · exact h.elim

def srcSlE (m : Mem) (s : Nat) (v : SV) (F : Nat → List SV → Prop) : Prop :=
  match v with
  | .slc i o s' len _ => match rd m i with
    | some B => s' = s ∧ o + len * s ≤ B.cells.length ∧ F len ((B.cells.drop o).take (len * s))
    | none => False
  | .val (.slice none 0 0) => F 0 []
  | _ => False
def srcOfE (m : Mem) (s : Nat) (v : SV) (F : Nat → List SV → Prop) : Prop :=
  match v with
  | .str t => s = 1 ∧ F t.length (t.map SV.byte)
  | v => srcSlE m s v F
theorem srcSl_of {m : Mem} {s : Nat} {v : SV} {F : Nat → List SV → Prop} (h : srcSlE m s v F) : srcSl m s v F := by
  unfold srcSlE at h
  unfold srcSl
  split at h
  · split at h
    · rename_i B hB; exact ⟨h.1, B, hB, h.2.1, h.2.2⟩
    · exact h.elim
  · exact h
  · exact h.elim
theorem srcOf_of {m : Mem} {s : Nat} {v : SV} {F : Nat → List SV → Prop} (h : srcOfE m s v F) : srcOf m s v F := by
  unfold srcOfE at h
  unfold srcOf
  split at h
  · exact h
  · rename_i hne
    split
    · exact (hne _ rfl).elim
    · exact srcSl_of h

def evO (T : List (Nat × List SV)) (call : CallT) (fr : Fr) (m : Mem) (n : Nat) (K : Kt) : SOp → Prop
  | .box e x => match (x.ev fr).cells? with
    | some l => K (.ptr n 0) ((n, ⟨.own e, l⟩) :: m) (n + 1)
    | none => False
  | .build z parts => fillE fr z parts fun cs => K (.agg cs) m n
  | .bslice e s k z parts => fillE fr z parts fun cs => K (.slc n 0 s k (some k)) ((n, ⟨.own e, cs⟩) :: m) (n + 1)
  | .load agg x =>
    match x.ev fr with
    | .ptr i o => match rd m i with
      | some B => match agg with
        | none => match B.cells[o]? with
          | some v => K v m n
          | none => False
        | some k => o + k ≤ B.cells.length ∧ K (.agg ((B.cells.drop o).take k)) m n
      | none => False
    | .gp g o => match lookT T g with
      | some cs => match agg with
        | none => match cs[o]? with
          | some v => K v m n
          | none => False
        | some k => o + k ≤ cs.length ∧ K (.agg ((cs.drop o).take k)) m n
      | none => False
    | _ => False
  | .store k a x =>
    match a.ev fr with
    | .ptr i o => match rd m i with
      | some ⟨.own e, cells⟩ => match (x.ev fr).cells? with
        | some l => l.length = k ∧ o + k ≤ cells.length ∧ K .any (upd m i ⟨.own e, splice cells o l⟩) n
        | none => False
      | _ => False
    | _ => False
  | .idxS x i s =>
    match i.ev fr with
    | .int _ ix => match x.ev fr with
      | .slc b o s' len _ => match rd m b with
        | some B => s' = s ∧ 0 ≤ ix ∧ ix < len ∧ o + ix.toNat * s < B.cells.length ∧ K (.ptr b (o + ix.toNat * s)) m n
        | none => False
      | _ => False
    | _ => False
  | .idxV x i len s agg =>
    match i.ev fr with
    | .int _ ix => match x.ev fr with
      | .agg l => 0 ≤ ix ∧ ix < len ∧ match agg with
        | true => K (.agg ((l.drop (ix.toNat * s)).take s)) m n
        | false => match l[ix.toNat * s]? with
          | some v => K v m n
          | none => False
      | _ => False
    | _ => False
  | .idxT x i =>
    match i.ev fr with
    | .int _ ix => match x.ev fr with
      | .str t => 0 ≤ ix ∧ match t[ix.toNat]? with
        | some c => K (SV.byte c) m n
        | none => False
      | _ => False
    | _ => False
  | .fieldV x off agg =>
    match x.ev fr with
    | .agg l => match agg with
      | some k => K (.agg ((l.drop off).take k)) m n
      | none => match l[off]? with
        | some v => K v m n
        | none => False
    | _ => False
  | .eqv neg pat x y =>
    match x.ev fr, y.ev fr with
    | .agg l, .agg l' => match eqPat pat l l' with
      | some b => K (.bool (if neg then !b else b)) m n
      | none => False
    | _, _ => False
  | .isNil neg x =>
    match x.ev fr with
    | .val (.slice none 0 0) => K (.bool (!neg)) m n
    | .slc b o _ _ _ => match rd m b with
      | some B => o < B.cells.length ∧ K (.bool neg) m n
      | none => False
    | _ => False
  | .b2s x => srcSlE m 1 (x.ev fr) fun _ l => l.all isU8 = true ∧ K (.str (l.map byteOf)) m n
  | .slcS s x lo hi =>
    match x.ev fr with
    | .slc b o s' len cap =>
      s' = s ∧ (match cap with
        | none => (match rd m b with
          | some ⟨.own _, cells⟩ => o + len * s ≤ cells.length
          | _ => False)
        | some c => len ≤ c) ∧
      onOpt fr lo 0 fun l => onOpt fr hi len fun h => 0 ≤ l ∧ l ≤ h ∧ h ≤ len ∧
        K (.slc b (o + l.toNat * s) s (h.toNat - l.toNat) (cap.map (· - l.toNat))) m n
    | _ => False
  | .arrAt k x =>
    match x.ev fr with
    | .slc b o _ len _ => match rd m b with
      | some B => 0 < k ∧ k ≤ len ∧ o < B.cells.length ∧ K (.ptr b o) m n
      | none => False
    | _ => False
  | .ext x i =>
    match x.ev fr with
    | .tup l => match l[i]? with
      | some v => K v m n
      | none => False
    | _ => False
  | .app e s bytes x y =>
    srcOfE m s (y.ev fr) fun k l =>
    match x.ev fr with
    | .slc i o s' len cap => match rd m i with
      | some ⟨.own e', cells⟩ => s' = s ∧ o = 0 ∧ cap = none ∧ (len + k) * bytes ≤ 2 ^ 40 ∧ bytes ≤ 2 ^ 20 ∧ e' = e ∧ len * s ≤ cells.length ∧
        K (.slc n 0 s (len + k) none) ((n, ⟨.own e, cells.take (len * s) ++ l⟩) :: rm m i) (n + 1)
      | _ => False
    | .val (.slice none 0 0) => k * bytes ≤ 2 ^ 40 ∧ bytes ≤ 2 ^ 20 ∧ K (.slc n 0 s k none) ((n, ⟨.own e, l⟩) :: m) (n + 1)
    | _ => False
  | .copy s x y =>
    srcOfE m s (y.ev fr) fun k l =>
    match x.ev fr with
    | .slc i o s' len _ => match rd m i with
      | some ⟨.own e, cells⟩ => s' = s ∧ o + len * s ≤ cells.length ∧
        K (.int .i64 (min k len : Nat)) (upd m i ⟨.own e, splice cells o (l.take (min k len * s))⟩) n
      | _ => False
    | _ => False
  | op => exO T call fr m n K op

theorem srcOf_mono {m : Mem} {s : Nat} {v : SV} {F G : Nat → List SV → Prop} (h : srcOf m s v F) (hF : ∀ k l, F k l → G k l) : srcOf m s v G := by
  unfold srcOf at h ⊢
  split at h
  · exact ⟨h.1, hF _ _ h.2⟩
  · unfold srcSl at h ⊢
    split at h
    · obtain ⟨h1, B, h2, h3, h4⟩ := h; exact ⟨h1, B, h2, h3, hF _ _ h4⟩
    · exact hF _ _ h
    · exact h.elim

theorem exO_of_ev {T : List (Nat × List SV)} {call : CallT} {fr : Fr} {m : Mem} {n : Nat} {K : Kt} (op : SOp) (h : evO T call fr m n K op) : exO T call fr m n K op := by
  cases op with
  | box e x =>
    simp only [evO] at h; simp only [exO]
    split at h
    · rename_i l hl; exact ⟨l, hl, h⟩
    · exact h.elim
  | build z ps => simp only [evO] at h; simp only [exO]; exact fillS_of h
  | bslice e s k z ps => simp only [evO] at h; simp only [exO]; exact fillS_of h
  | load agg x =>
    simp only [evO] at h; simp only [exO]
    generalize x.ev fr = xv at h ⊢
    split at h
    · split at h
      · rename_i B hB
        refine ⟨B, hB, ?_⟩
        cases agg with
        | none => simp only at h ⊢; split at h
                  · rename_i v hv; exact ⟨v, hv, h⟩
                  · exact h.elim
        | some k => exact h
      · exact h.elim
    · split at h
      · rename_i cs hcs
        refine ⟨cs, lookT_mem hcs, ?_⟩
        cases agg with
        | none => simp only at h ⊢; split at h
                  · rename_i v hv; exact ⟨v, hv, h⟩
                  · exact h.elim
        | some k => exact h
      · exact h.elim
    · exact h.elim
  | store k a x =>
    simp only [evO] at h; simp only [exO]
    generalize a.ev fr = av at h ⊢
    split at h
    · split at h
      · rename_i e cells hB
        split at h
        · rename_i l hl; exact ⟨_, e, l, hB, rfl, hl, h⟩
        · exact h.elim
      · exact h.elim
    · exact h.elim
  | idxS x i s =>
    simp only [evO] at h; simp only [exO, onInt]
    generalize i.ev fr = iv at h ⊢
    generalize x.ev fr = xv at h ⊢
    split at h
    · split at h
      · split at h
        · rename_i B hB; exact ⟨h.1, h.2.1, h.2.2.1, B, hB, h.2.2.2⟩
        · exact h.elim
      · exact h.elim
    · exact h.elim
  | idxV x i len s agg =>
    simp only [evO] at h; simp only [exO, onInt]
    generalize i.ev fr = iv at h ⊢
    generalize x.ev fr = xv at h ⊢
    split at h
    · split at h
      · refine ⟨h.1, h.2.1, ?_⟩
        cases agg with
        | true => exact h.2.2
        | false =>
          have h := h.2.2
          simp only at h ⊢; split at h
          · rename_i v hv; exact ⟨v, hv, h⟩
          · exact h.elim
      · exact h.elim
    · exact h.elim
  | idxT x i =>
    simp only [evO] at h; simp only [exO, onInt]
    generalize i.ev fr = iv at h ⊢
    generalize x.ev fr = xv at h ⊢
    split at h
    · split at h
      · refine ⟨h.1, ?_⟩
        have h := h.2
        split at h
        · rename_i c hc; exact ⟨c, hc, h⟩
        · exact h.elim
      · exact h.elim
    · exact h.elim
  | fieldV x off agg =>
    simp only [evO] at h; simp only [exO]
    generalize x.ev fr = xv at h ⊢
    split at h
    · cases agg with
      | some k => exact h
      | none =>
        simp only at h ⊢; split at h
        · rename_i v hv; exact ⟨v, hv, h⟩
        · exact h.elim
    · exact h.elim
  | eqv neg pat x y =>
    simp only [evO] at h; simp only [exO]
    generalize x.ev fr = xv at h ⊢
    generalize y.ev fr = yv at h ⊢
    split at h
    · split at h
      · rename_i b hb; exact ⟨b, hb, h⟩
      · exact h.elim
    · exact h.elim
  | isNil neg x =>
    simp only [evO] at h; simp only [exO]
    generalize x.ev fr = xv at h ⊢
    split at h
    · exact h
    · split at h
      · rename_i B hB; exact ⟨⟨B, hB, h.1⟩, h.2⟩
      · exact h.elim
    · exact h.elim
  | b2s x => simp only [evO] at h; simp only [exO]; exact srcSl_of h
  | slcS s x lo hi =>
    simp only [evO] at h; simp only [exO]
    generalize x.ev fr = xv at h ⊢
    split at h
    · refine ⟨h.1, ?_, h.2.2⟩
      have h := h.2.1
      split at h
      · split at h
        · rename_i e cells hB; exact ⟨_, e, hB, rfl, h⟩
        · exact h.elim
      · exact h
    · exact h.elim
  | arrAt k x =>
    simp only [evO] at h; simp only [exO]
    generalize x.ev fr = xv at h ⊢
    split at h
    · split at h
      · rename_i B hB; exact ⟨h.1, h.2.1, ⟨B, hB, h.2.2.1⟩, h.2.2.2⟩
      · exact h.elim
    · exact h.elim
  | ext x i =>
    simp only [evO] at h; simp only [exO]
    generalize x.ev fr = xv at h ⊢
    split at h
    · split at h
      · rename_i v hv; exact ⟨v, hv, h⟩
      · exact h.elim
    · exact h.elim
  | app e s bytes x y =>
    simp only [evO] at h; simp only [exO]
    generalize x.ev fr = xv at h ⊢
    refine srcOf_mono (srcOf_of h) fun k l h => ?_
    split at h
    · split at h
      · rename_i e' cells hB
        obtain ⟨h1, h2, h3, h4, h5, h6, h7, h8⟩ := h
        subst h6
        exact ⟨h1, h2, h3, h4, h5, _, hB, rfl, h7, h8⟩
      · exact h.elim
    · exact h
    · exact h.elim
  | copy s x y =>
    simp only [evO] at h; simp only [exO]
    generalize x.ev fr = xv at h ⊢
    refine srcOf_mono (srcOf_of h) fun k l h => ?_
    split at h
    · split at h
      · rename_i e cells hB; exact ⟨h.1, _, e, hB, rfl, h.2.1, h.2.2⟩
      · exact h.elim
    · exact h.elim
  | _ => exact h

/-- less is known of calls -/
theorem exO_call {T : List (Nat × List SV)} {c1 c2 : CallT} (hc : ∀ f a m n K, c1 f a m n K → c2 f a m n K) {fr : Fr} {m : Mem} {n : Nat} {K : Kt} (op : SOp)
    (h : exO T c1 fr m n K op) : exO T c2 fr m n K op := by
  cases op with
  | call f args => simp only [exO] at h ⊢; exact hc _ _ _ _ _ h
  | callp f args => simp only [exO] at h ⊢; exact ⟨h.1, hc _ _ _ _ _ h.2⟩
  | callv x args =>
    simp only [exO] at h ⊢
    split at h
    · exact hc _ _ _ _ _ h
    · exact h.elim
  | _ => exact h


def evR (T : List (Nat × List SV)) (call : CallT) : List Opr → Fr → Mem → Nat → (Fr → Mem → Nat → Prop) → Prop
  | [], fr, m, n, K => K fr m n
  | o :: r, fr, m, n, K =>
    match o.guard with
    | none => evO T call fr m n (fun v m' n' => evR T call r (dels (putO fr o.dst v) o.kill) m' n' K) o.op
    | some (g, b) =>
      match get fr g with
      | .bool t => (t = b → evO T call fr m n (fun v m' n' => evR T call r (dels (putO fr o.dst v) o.kill) m' n' K) o.op) ∧
          (t = !b → evR T call r (dels (putO fr o.dst (.val undef)) o.kill) m n K)
      | .val (.tuple _) => evR T call r (dels (putO fr o.dst (.val undef)) o.kill) m n K
      | _ => False

def evA (T : List (Nat × List SV)) (call : CallT) (fr0 : Fr) (m0 : Mem) : List Opr → List Dn → Nat → (List Dn → Nat → Prop) → Prop
  | [], done, n, K => K done n
  | o :: r, done, n, K =>
    match o.guard with
    | none => evO T call (frD (pickD done o.pre) (dels fr0 o.hide)) (views (memD (pickD done o.pre) m0)) n (fun v m' n' => n ≤ n' ∧ evA T call fr0 m0 r (done ++ [⟨o.dst, v, newer n m', n, n'⟩]) n' K) o.op
    | some (g, b) =>
      match get (frD (pickD done o.pre) (dels fr0 o.hide)) g with
      | .bool t => (t = b → evO T call (frD (pickD done o.pre) (dels fr0 o.hide)) (views (memD (pickD done o.pre) m0)) n (fun v m' n' => n ≤ n' ∧ evA T call fr0 m0 r (done ++ [⟨o.dst, v, newer n m', n, n'⟩]) n' K) o.op) ∧
          (t = !b → evA T call fr0 m0 r (done ++ [⟨o.dst, .val undef, [], n, n⟩]) n K)
      | .val (.tuple _) => evA T call fr0 m0 r (done ++ [⟨o.dst, .val undef, [], n, n⟩]) n K
      | _ => False

def evW (T : List (Nat × List SV)) (call : CallT) (fr0 : Fr) (m0 : Mem) : List Opr → List DW → Nat → (List DW → Nat → Prop) → Prop
  | [], done, n, K => K done n
  | o :: r, done, n, K =>
    match o.op with
    | .store k a x => o.guard = none ∧ match a.ev (frD (pickD (baseD done) o.pre) (dels fr0 o.hide)) with
      | .ptr b off => match rd (memD (pickD (baseD done) o.pre) m0) b with
        | some ⟨.own e, cells⟩ => match (x.ev (frD (pickD (baseD done) o.pre) (dels fr0 o.hide))).cells? with
          | some l => l.length = k ∧ off + k ≤ cells.length ∧ (stBlk done).contains b = false ∧ untouched b o.pre 0 done ∧
              evW T call fr0 m0 r (done ++ [⟨⟨o.dst, .any, [], n, n⟩, some (b, ⟨.own e, splice cells off l⟩), none⟩]) n K
          | none => False
        | _ => False
      | _ => False
    | op => clear (touch (frD (pickD (baseD done) o.pre) (dels fr0 o.hide)) op) (stBlk done) ∧ match o.guard with
      | none => evO T call (frD (pickD (baseD done) o.pre) (dels fr0 o.hide)) (views (memD (pickD (baseD done) o.pre) m0)) n
          (fun v m' n' => n ≤ n' ∧ evW T call fr0 m0 r (done ++ [⟨⟨o.dst, v, newer n m', n, n'⟩, none, touch (frD (pickD (baseD done) o.pre) (dels fr0 o.hide)) op⟩]) n' K) op
      | some (g, b) =>
        match get (frD (pickD (baseD done) o.pre) (dels fr0 o.hide)) g with
        | .bool t => (t = b → evO T call (frD (pickD (baseD done) o.pre) (dels fr0 o.hide)) (views (memD (pickD (baseD done) o.pre) m0)) n
            (fun v m' n' => n ≤ n' ∧ evW T call fr0 m0 r (done ++ [⟨⟨o.dst, v, newer n m', n, n'⟩, none, touch (frD (pickD (baseD done) o.pre) (dels fr0 o.hide)) op⟩]) n' K) op) ∧
            (t = !b → evW T call fr0 m0 r (done ++ [⟨⟨o.dst, .val undef, [], n, n⟩, none, some []⟩]) n K)
        | .val (.tuple _) => evW T call fr0 m0 r (done ++ [⟨⟨o.dst, .val undef, [], n, n⟩, none, some []⟩]) n K
        | _ => False

/-- a loop that is unrolled -/
def loopU (body : Fr → Mem → Nat → Post → Prop) (Q : Post) : Nat → Fr → Mem → Nat → Prop
  | 0, _, _, _ => False
  | k + 1, fr, m, n => body fr m n (seqQ (loopU body Q k) Q)

theorem loopN_ofU {T : List (Nat × List SV)} {c2 : CallT} (hp : PointC c2) {n0 : Nat} {c : SC} {body : Fr → Mem → Nat → Post → Prop} (hb : ∀ fr m n Q, body fr m n Q → exC T c2 n0 c fr m n Q) {Q : Post} :
    ∀ {k : Nat} {fr : Fr} {m : Mem} {n : Nat}, loopU body Q k fr m n → loopN n0 (exC T c2 n0 c) Q k fr m n
  | 0, _, _, _, h => h.elim
  | k + 1, fr, m, n, h => by
    unfold loopU at h
    unfold loopN
    refine .inl (exC_mono hp c _ _ _ _ _ (hb _ _ _ _ h) fun e fr m n h => ?_)
    unfold seqQ at h ⊢
    cases e with
    | normal => exact loopN_ofU hp hb h
    | exit id => exact h
    | ret => exact h

/-- code, with what is known of calls (c1) and with what is true of them (c2) -/
def evC (T : List (Nat × List SV)) (c1 c2 : CallT) (u : Option Nat) (n0 : Nat) : SC → Fr → Mem → Nat → Post → Prop
  | .skip, fr, m, n, Q => Q .normal fr m n
  | .reg ops, fr, m, n, Q => evR T c1 ops fr m n fun fr' m' n' => Q .normal fr' m' n'
  | .regD k ops, fr, m, n, Q => evA T c1 fr m (ops.take k) [] n fun done n' =>
      evR T c1 (ops.drop k) (dels (frD done.reverse fr) (kills (ops.take k))) (memD done.reverse m) n' fun fr' m' n' => Q .normal fr' m' n'
  | .regP _ ops, fr, m, n, Q => evR T c1 ops fr m n fun fr' m' n' => Q .normal fr' m' n'
  | .regW k ops, fr, m, n, Q => evW T c1 fr m (ops.take k) [] n fun done n' =>
      evR T c1 (ops.drop k) (dels (frD (baseD done).reverse fr) (kills (ops.take k))) (updsW done (memD (baseD done).reverse m)) n' fun fr' m' n' => Q .normal fr' m' n'
  | .bad, _, _, _, _ => False
  | .seq a b, fr, m, n, Q => evC T c1 c2 u n0 a fr m n (seqQ (fun fr' m' n' => evC T c1 c2 u n0 b fr' m' n' Q) Q)
  | .cond x a b, fr, m, n, Q => onBool (x.ev fr) fun t => (t = true → evC T c1 c2 u n0 a fr m n Q) ∧ (t = false → evC T c1 c2 u n0 b fr m n Q)
  | .block id c, fr, m, n, Q => evC T c1 c2 u n0 c fr m n (blkQ id Q)
  | .loop c, fr, m, n, Q => match u with
    | none => ∃ k, loopN n0 (exC T c2 n0 c) Q k fr m n
    | some k => loopU (evC T c1 c2 u n0 c) Q k fr m n
  | .exit id, fr, m, n, Q => Q (.exit id) fr m n
  | .ret, fr, m, n, Q => Q .ret fr m n

section
variable {T : List (Nat × List SV)} {c1 c2 : CallT} {u : Option Nat} (hc : ∀ f a m n K, c1 f a m n K → c2 f a m n K) (hp : PointC c2) {n0 : Nat}
include hc hp

theorem exR_of_ev : ∀ {qs : List Opr} {fr : Fr} {m : Mem} {n : Nat} {K : Fr → Mem → Nat → Prop}, evR T c1 qs fr m n K → exR T c2 qs fr m n K
  | [], fr, m, n, K, h => h
  | q :: qs, fr, m, n, K, h => by
    simp only [evR] at h
    simp only [exR]
    cases hg : q.guard with
    | none =>
      simp only [hg] at h ⊢
      exact exO_mono hp (exO_call hc _ (exO_of_ev _ h)) fun v m n h => exR_of_ev h
    | some gb =>
      obtain ⟨g, b⟩ := gb
      simp only [hg] at h ⊢
      cases hv : get fr g <;> simp only [hv] at h ⊢
      case bool t => exact ⟨fun e => exO_mono hp (exO_call hc _ (exO_of_ev _ (h.1 e))) fun v m n h => exR_of_ev h, fun e => exR_of_ev (h.2 e)⟩
      case val v =>
        cases v <;> simp only at h ⊢
        exact exR_of_ev h

theorem exA_of_ev {fr : Fr} {m : Mem} : ∀ {qs : List Opr} {done : List Dn} {n : Nat} {K : List Dn → Nat → Prop}, evA T c1 fr m qs done n K → exA T c2 fr m qs done n K
  | [], done, n, K, h => h
  | q :: qs, done, n, K, h => by
    simp only [evA] at h
    simp only [exA]
    cases hg : q.guard with
    | none =>
      simp only [hg] at h ⊢
      exact exO_mono hp (exO_call hc _ (exO_of_ev _ h)) fun v m n h => ⟨h.1, exA_of_ev h.2⟩
    | some gb =>
      obtain ⟨g, b⟩ := gb
      simp only [hg] at h ⊢
      cases hv : get (frD (pickD done q.pre) (dels fr q.hide)) g <;> simp only [hv] at h ⊢
      case bool t => exact ⟨fun e => exO_mono hp (exO_call hc _ (exO_of_ev _ (h.1 e))) fun v m n h => ⟨h.1, exA_of_ev h.2⟩, fun e => exA_of_ev (h.2 e)⟩
      case val v =>
        cases v <;> simp only at h ⊢
        exact exA_of_ev h

theorem exW_of_ev {fr : Fr} {m : Mem} : ∀ {qs : List Opr} {done : List DW} {n : Nat} {K : List DW → Nat → Prop}, evW T c1 fr m qs done n K → exW T c2 fr m qs done n K
  | [], done, n, K, h => h
  | q :: qs, done, n, K, h => by
    unfold evW at h
    unfold exW
    simp only
    split at h
    · rename_i k a x hop
      rw [hop]; simp only
      refine ⟨h.1, ?_⟩
      have h := h.2
      split at h
      · rename_i b off hab
        simp only [hab]
        split at h
        · rename_i e cells hr
          split at h
          · rename_i l hl
            exact ⟨e, cells, l, hr, hl, h.1, h.2.1, h.2.2.1, h.2.2.2.1, exW_of_ev h.2.2.2.2⟩
          · exact h.elim
        · exact h.elim
      · exact h.elim
    · rename_i hne
      split
      · rename_i k a x hop; exact (hne _ _ _ hop).elim
      refine ⟨h.1, ?_⟩
      have h := h.2
      cases hg : q.guard with
      | none =>
        simp only [hg] at h ⊢
        exact exO_mono hp (exO_call hc _ (exO_of_ev _ h)) fun v m n h => ⟨h.1, exW_of_ev h.2⟩
      | some gb =>
        obtain ⟨g, b⟩ := gb
        simp only [hg] at h ⊢
        split at h
        · rename_i t ht; simp only [ht]; exact ⟨fun e => exO_mono hp (exO_call hc _ (exO_of_ev _ (h.1 e))) fun v m n h => ⟨h.1, exW_of_ev h.2⟩, fun e => exW_of_ev (h.2 e)⟩
        · rename_i vs ht; simp only [ht]; exact exW_of_ev h
        · exact h.elim

theorem exC_of_ev : ∀ (c : SC) (fr : Fr) (m : Mem) (n : Nat) (Q : Post), evC T c1 c2 u n0 c fr m n Q → exC T c2 n0 c fr m n Q
  | .skip, _, _, _, _, h => h
  | .reg ops, _, _, _, _, h => exR_of_ev hc hp h
  | .regD k ops, _, _, _, _, h => exA_mono hp (exA_of_ev hc hp h) fun _ _ h => exR_of_ev hc hp h
  | .regP _ ops, _, _, _, _, h => exR_of_ev hc hp h
  | .regW k ops, _, _, _, _, h => exW_mono hp (exW_of_ev hc hp h) fun _ _ h => exR_of_ev hc hp h
  | .bad, _, _, _, _, h => h
  | .seq a b, _, _, _, Q, h => by
    simp only [evC] at h
    simp only [exC]
    refine exC_mono hp a _ _ _ _ _ (exC_of_ev a _ _ _ _ h) fun e fr m n h => ?_
    unfold seqQ at h ⊢
    cases e with
    | normal => exact exC_of_ev b _ _ _ _ h
    | exit id => exact h
    | ret => exact h
  | .cond x a b, _, _, _, Q, h => by
    simp only [evC] at h
    simp only [exC]
    exact onBool_mono h fun t h => ⟨fun e => exC_of_ev a _ _ _ _ (h.1 e), fun e => exC_of_ev b _ _ _ _ (h.2 e)⟩
  | .block id c, _, _, _, Q, h => by
    simp only [evC] at h
    simp only [exC]
    exact exC_of_ev c _ _ _ _ h
  | .loop c, _, _, _, Q, h => by
    have rec0 := exC_of_ev c
    simp only [evC] at h
    simp only [exC]
    split at h
    · exact h
    · rename_i k
      exact ⟨k, loopN_ofU hp rec0 h⟩
  | .exit id, _, _, _, _, h => h
  | .ret, _, _, _, _, h => h
end

/-- the stack -/
inductive It where
  | o (l : List Opr)
  | c (c : SC)
  | b (id : Nat)
  | u (k : Nat) (c : SC)

/-- what is left of an open region when it is done -/
def denA (T : List (Nat × List SV)) (c1 : CallT) (k : Nat) (ops : List Opr) (fr : Fr) (m : Mem) (Q : Post) : List Dn → Nat → Prop := fun done n' =>
  evR T c1 (ops.drop k) (dels (frD done.reverse fr) (kills (ops.take k))) (memD done.reverse m) n' fun fr' m' n' => Q .normal fr' m' n'

/-- likewise, where blocks are written -/
def denW (T : List (Nat × List SV)) (c1 : CallT) (k : Nat) (ops : List Opr) (fr : Fr) (m : Mem) (Q : Post) : List DW → Nat → Prop := fun done n' =>
  evR T c1 (ops.drop k) (dels (frD (baseD done).reverse fr) (kills (ops.take k))) (updsW done (memD (baseD done).reverse m)) n' fun fr' m' n' => Q .normal fr' m' n'

def den (T : List (Nat × List SV)) (c1 c2 : CallT) (u : Option Nat) (n0 : Nat) (Q : Post) : List It → Post
  | [] => Q
  | .o l :: st => seqQ (fun fr m n => evR T c1 l fr m n fun fr' m' n' => den T c1 c2 u n0 Q st .normal fr' m' n') (den T c1 c2 u n0 Q st)
  | .c c :: st => seqQ (fun fr m n => evC T c1 c2 u n0 c fr m n (den T c1 c2 u n0 Q st)) (den T c1 c2 u n0 Q st)
  | .b id :: st => blkQ id (den T c1 c2 u n0 Q st)
  | .u k c :: st => seqQ (loopU (evC T c1 c2 u n0 c) (den T c1 c2 u n0 Q st) k) (den T c1 c2 u n0 Q st)

/-- the one or the other -/
def gd (t b : Bool) (X Y : Prop) : Prop := (t = b → X) ∧ (t = !b → Y)
theorem gd_tt {X Y : Prop} : gd true true X Y = X := by simp [gd]
theorem gd_ff {X Y : Prop} : gd false false X Y = X := by simp [gd]
theorem gd_tf {X Y : Prop} : gd true false X Y = Y := by simp [gd]
theorem gd_ft {X Y : Prop} : gd false true X Y = Y := by simp [gd]
theorem gd_any {t b : Bool} {X Y : Prop} : gd t b X Y = ((t = b → X) ∧ (t = !b → Y)) := rfl

/-- what is left behind an operation -/
def kont (T : List (Nat × List SV)) (c1 c2 : CallT) (u : Option Nat) (n0 : Nat) (Q : Post) (l : List Opr) (st : List It) (fr : Fr) (d : Option Nat) (ks : List Nat) : Kt := fun v m' n' =>
  den T c1 c2 u n0 Q (.o l :: st) .normal (dels (putO fr d v) ks) m' n'

section
variable {T : List (Nat × List SV)} {c1 c2 : CallT} {u : Option Nat} {n0 : Nat} {Q : Post} {st : List It} {fr : Fr} {m : Mem} {n : Nat} {j k : Nat} {l : List Opr} {a b c : SC} {x : Opd} {e : SX}

theorem den_nil : den T c1 c2 u n0 Q [] e fr m n = Q e fr m n := (rfl)
theorem den_o0 : den T c1 c2 u n0 Q (.o [] :: st) .normal fr m n = den T c1 c2 u n0 Q st .normal fr m n := (rfl)
theorem den_o1 {d : Option Nat} {op : SOp} {ks p h : List Nat} : den T c1 c2 u n0 Q (.o (⟨d, op, none, ks, p, h⟩ :: l) :: st) .normal fr m n =
    evO T c1 fr m n (kont T c1 c2 u n0 Q l st fr d ks) op := (rfl)
theorem kont_app {d : Option Nat} {ks : List Nat} {v : SV} : kont T c1 c2 u n0 Q l st fr d ks v m n = den T c1 c2 u n0 Q (.o l :: st) .normal (dels (putO fr d v) ks) m n := (rfl)
theorem den_o2 {d : Option Nat} {op : SOp} {g : Nat} {t : Bool} {ks p h : List Nat} : den T c1 c2 u n0 Q (.o (⟨d, op, some (g, t), ks, p, h⟩ :: l) :: st) .normal fr m n =
    (match get fr g with
      | .bool t' => (t' = t → evO T c1 fr m n (fun v m' n' => den T c1 c2 u n0 Q (.o l :: st) .normal (dels (putO fr d v) ks) m' n') op) ∧
          (t' = !t → den T c1 c2 u n0 Q (.o l :: st) .normal (dels (putO fr d (.val undef)) ks) m n)
      | .val (.tuple _) => den T c1 c2 u n0 Q (.o l :: st) .normal (dels (putO fr d (.val undef)) ks) m n
      | _ => False) := (rfl)
theorem den_skip : den T c1 c2 u n0 Q (.c .skip :: st) .normal fr m n = den T c1 c2 u n0 Q st .normal fr m n := (rfl)
theorem den_reg : den T c1 c2 u n0 Q (.c (.reg l) :: st) .normal fr m n = den T c1 c2 u n0 Q (.o l :: st) .normal fr m n := (rfl)
theorem den_regP : den T c1 c2 u n0 Q (.c (.regP k l) :: st) .normal fr m n = den T c1 c2 u n0 Q (.o l :: st) .normal fr m n := (rfl)
theorem den_regD : den T c1 c2 u n0 Q (.c (.regD k l) :: st) .normal fr m n = evA T c1 fr m (l.take k) [] n (denA T c1 k l fr m (den T c1 c2 u n0 Q st)) := (rfl)
theorem den_regW : den T c1 c2 u n0 Q (.c (.regW k l) :: st) .normal fr m n = evW T c1 fr m (l.take k) [] n (denW T c1 k l fr m (den T c1 c2 u n0 Q st)) := (rfl)
theorem den_W {d : List DW} : denW T c1 k l fr m (den T c1 c2 u n0 Q st) d n =
    den T c1 c2 u n0 Q (.o (l.drop k) :: st) .normal (dels (frD (baseD d).reverse fr) (kills (l.take k))) (updsW d (memD (baseD d).reverse m)) n := (rfl)
theorem den_bad : den T c1 c2 u n0 Q (.c .bad :: st) .normal fr m n = False := (rfl)
theorem den_A {d : List Dn} : denA T c1 k l fr m (den T c1 c2 u n0 Q st) d n =
    den T c1 c2 u n0 Q (.o (l.drop k) :: st) .normal (dels (frD d.reverse fr) (kills (l.take k))) (memD d.reverse m) n := (rfl)
theorem den_seq : den T c1 c2 u n0 Q (.c (.seq a b) :: st) .normal fr m n = den T c1 c2 u n0 Q (.c a :: .c b :: st) .normal fr m n := (rfl)
theorem den_cond : den T c1 c2 u n0 Q (.c (.cond x a b) :: st) .normal fr m n =
    (match x.ev fr with
      | .bool t => gd t true (den T c1 c2 u n0 Q (.c a :: st) .normal fr m n) (den T c1 c2 u n0 Q (.c b :: st) .normal fr m n)
      | _ => False) := (rfl)
theorem den_block : den T c1 c2 u n0 Q (.c (.block j c) :: st) .normal fr m n = den T c1 c2 u n0 Q (.c c :: .b j :: st) .normal fr m n := (rfl)
theorem den_loopU {k : Nat} : den T c1 c2 (some k) n0 Q (.c (.loop c) :: st) .normal fr m n = den T c1 c2 (some k) n0 Q (.u k c :: st) .normal fr m n := (rfl)
theorem den_loop : den T c1 c2 none n0 Q (.c (.loop c) :: st) .normal fr m n = ∃ k, loopN n0 (exC T c2 n0 c) (den T c1 c2 none n0 Q st) k fr m n := (rfl)
theorem den_exit : den T c1 c2 u n0 Q (.c (.exit j) :: st) .normal fr m n = den T c1 c2 u n0 Q st (.exit j) fr m n := (rfl)
theorem den_ret : den T c1 c2 u n0 Q (.c .ret :: st) .normal fr m n = den T c1 c2 u n0 Q st .ret fr m n := (rfl)
theorem den_b : den T c1 c2 u n0 Q (.b j :: st) .normal fr m n = den T c1 c2 u n0 Q st .normal fr m n := (rfl)
theorem den_xb : den T c1 c2 u n0 Q (.b j :: st) (.exit k) fr m n = if k = j then den T c1 c2 u n0 Q st .normal fr m n else den T c1 c2 u n0 Q st (.exit k) fr m n := (rfl)
theorem den_xo : den T c1 c2 u n0 Q (.o l :: st) (.exit k) fr m n = den T c1 c2 u n0 Q st (.exit k) fr m n := (rfl)
theorem den_xc : den T c1 c2 u n0 Q (.c c :: st) (.exit k) fr m n = den T c1 c2 u n0 Q st (.exit k) fr m n := (rfl)
theorem den_xu : den T c1 c2 u n0 Q (.u j c :: st) (.exit k) fr m n = den T c1 c2 u n0 Q st (.exit k) fr m n := (rfl)
theorem den_rb : den T c1 c2 u n0 Q (.b j :: st) .ret fr m n = den T c1 c2 u n0 Q st .ret fr m n := (rfl)
theorem den_ro : den T c1 c2 u n0 Q (.o l :: st) .ret fr m n = den T c1 c2 u n0 Q st .ret fr m n := (rfl)
theorem den_rc : den T c1 c2 u n0 Q (.c c :: st) .ret fr m n = den T c1 c2 u n0 Q st .ret fr m n := (rfl)
theorem den_ru : den T c1 c2 u n0 Q (.u j c :: st) .ret fr m n = den T c1 c2 u n0 Q st .ret fr m n := (rfl)
theorem den_u : den T c1 c2 u n0 Q (.u (k + 1) c :: st) .normal fr m n = den T c1 c2 u n0 Q (.c c :: .u k c :: st) .normal fr m n := (rfl)

/-- a loop that is unrolled at most k times -/
theorem den_unroll (hc : ∀ f a m n K, c1 f a m n K → c2 f a m n K) (hp : PointC c2) (k : Nat) (h : den T c1 c2 u n0 Q (.u k c :: st) .normal fr m n) :
    ∃ k, loopN n0 (exC T c2 n0 c) (den T c1 c2 u n0 Q st) k fr m n := ⟨k, loopN_ofU hp (exC_of_ev hc hp c) h⟩

/-- what a round of a loop has to show -/
def again {σ : Type} (n0 : Nat) (F : σ → Fr) (M : σ → Mem) (B : σ → Nat) (Inv : σ → Prop) (μ : σ → Nat) (s : σ) (Q : Post) : Post :=
  seqQ (fun fr' m' n' => ∃ s', Ent n0 fr' m' n' (F s') (M s') (B s') ∧ Inv s' ∧ μ s' < μ s) Q

theorem den_inv {P : Program} (hc : ∀ f a m n K, c1 f a m n K → callT P T f a m n K) {σ : Type}
    (F : σ → Fr) (M : σ → Mem) (B : σ → Nat) (Inv : σ → Prop) (μ : σ → Nat) (s : σ) (hE : Ent n0 fr m n (F s) (M s) (B s)) (hI : Inv s)
    (round : ∀ s, Inv s → den T c1 (callT P T) u n0 (again n0 F M B Inv μ s (den T c1 (callT P T) u n0 Q st)) [.c c] .normal (F s) (M s) (B s)) :
    ∃ k, loopN n0 (exC T (callT P T) n0 c) (den T c1 (callT P T) u n0 Q st) k fr m n :=
  loop_code F M B Inv μ s hE hI fun s hs => exC_of_ev hc (callT_point P T) _ _ _ _ _ (round s hs)

theorem again_n {σ : Type} {F : σ → Fr} {M : σ → Mem} {B : σ → Nat} {Inv : σ → Prop} {μ : σ → Nat} {s : σ} {Q : Post} :
    again n0 F M B Inv μ s Q .normal fr m n = ∃ s', Ent n0 fr m n (F s') (M s') (B s') ∧ Inv s' ∧ μ s' < μ s := (rfl)
theorem again_x {σ : Type} {F : σ → Fr} {M : σ → Mem} {B : σ → Nat} {Inv : σ → Prop} {μ : σ → Nat} {s : σ} {Q : Post} :
    again n0 F M B Inv μ s Q (.exit j) fr m n = Q (.exit j) fr m n := (rfl)
theorem again_r {σ : Type} {F : σ → Fr} {M : σ → Mem} {B : σ → Nat} {Inv : σ → Prop} {μ : σ → Nat} {s : σ} {Q : Post} :
    again n0 F M B Inv μ s Q .ret fr m n = Q .ret fr m n := rfl

-- the shape in which simp unfolds first
theorem u_onInt {v : SV} {F : Int → Prop} : onInt v F = (match v with | .int _ n => F n | _ => False) := (rfl)
theorem u_onBool {v : SV} {F : Bool → Prop} : onBool v F = (match v with | .bool b => F b | _ => False) := (rfl)
theorem u_onOpt0 {d : Int} {F : Int → Prop} : onOpt fr none d F = F d := (rfl)
theorem u_onOpt1 {d : Int} {F : Int → Prop} : onOpt fr (some x) d F = (match x.ev fr with | .int _ n => F n | _ => False) := (rfl)
theorem u_binV {op : BinOp} {x y : SV} {F : SV → Prop} : binV op x y F = (match x, y with
  | .int k a, .int k' b => binI op k k' a b F
  | .str a, .str b => binS op a b F
  | _, _ => False) := (rfl)
theorem u_srcOf {s : Nat} {v : SV} {F : Nat → List SV → Prop} : srcOfE m s v F = (match v with
  | .str t => s = 1 ∧ F t.length (t.map SV.byte)
  | v => srcSlE m s v F) := (rfl)
theorem u_srcSl {s : Nat} {v : SV} {F : Nat → List SV → Prop} : srcSlE m s v F = (match v with
  | .slc i o s' len _ => match rd m i with
    | some B => s' = s ∧ o + len * s ≤ B.cells.length ∧ F len ((B.cells.drop o).take (len * s))
    | none => False
  | .val (.slice none 0 0) => F 0 []
  | _ => False) := (rfl)
end

/- the ends of functions -/
def evRes (T : List (Nat × List SV)) (fr : Fr) : List RV → Mem → Nat → (List SV → Mem → Nat → Prop) → Prop
  | [], m, n, K => K [] m n
  | .t d :: r, m, n, K => evRes T fr r m n fun l m n => K (get fr d :: l) m n
  | .c d g :: r, m, n, K => evO T (fun _ _ _ _ _ => False) fr m n (fun v m n => evRes T fr r m n fun l m n => K (v :: l) m n) (.load g (.t d))

theorem exRes_mono {T : List (Nat × List SV)} {fr : Fr} : ∀ {rs : List RV} {m : Mem} {n : Nat} {K K' : List SV → Mem → Nat → Prop}, exRes T fr rs m n K → (∀ l m n, K l m n → K' l m n) → exRes T fr rs m n K'
  | [], m, n, K, K', h, hK => hK _ _ _ h
  | .t d :: r, m, n, K, K', h, hK => exRes_mono (rs := r) h fun l m n h => hK _ _ _ h
  | .c d g :: r, m, n, K, K', h, hK => by
    simp only [exRes] at h ⊢
    exact exO_mono (fun _ _ _ _ _ h => h.elim) h fun v m n h => exRes_mono h fun l m n h => hK _ _ _ h

theorem exRes_of_ev {T : List (Nat × List SV)} {fr : Fr} : ∀ {rs : List RV} {m : Mem} {n : Nat} {K : List SV → Mem → Nat → Prop}, evRes T fr rs m n K → exRes T fr rs m n K
  | [], m, n, K, h => h
  | .t d :: r, m, n, K, h => exRes_of_ev (rs := r) h
  | .c d g :: r, m, n, K, h => by
    simp only [evRes] at h
    simp only [exRes]
    exact exO_mono (fun _ _ _ _ _ h => h.elim) (exO_of_ev _ h) fun v m n h => exRes_of_ev h

/-- the value is plain, and nothing is said of memory -/
def finP (T : List (Nat × List SV)) (res : List RV) (r : SV) : Post := fun e fr m n =>
  match e with
  | .exit _ => False
  | _ => evRes T fr res m n fun l _ _ => retOf l = r
theorem finP_r {T : List (Nat × List SV)} {res : List RV} {r : SV} {fr : Fr} {m : Mem} {n : Nat} : finP T res r .ret fr m n = evRes T fr res m n fun l _ _ => retOf l = r := (rfl)
theorem finP_n {T : List (Nat × List SV)} {res : List RV} {r : SV} {fr : Fr} {m : Mem} {n : Nat} : finP T res r .normal fr m n = evRes T fr res m n fun l _ _ => retOf l = r := (rfl)
theorem finP_x {T : List (Nat × List SV)} {res : List RV} {r : SV} {fr : Fr} {m : Mem} {n j : Nat} : finP T res r (.exit j) fr m n = False := (rfl)

/-- THE RULE FOR A FUNCTION OF PLAIN VALUES -/
theorem fun_pure {P : Program} {T : List (Nat × List SV)} (u : Option Nat) (c1 : CallT) (hF : ∀ f a m n K, c1 f a m n K → callT P T f a m n K) {f : FuncId} {sf : SF} {args : List SV} {r : SV}
    (hc : chkF P f sf = true) (hlen : args.length ≤ sf.n) (hr : ∀ η, r.ren η = r)
    (h : den T c1 (callT P T) u 0 (finP T sf.res r) [.c sf.body] .normal (frOf 0 args) [] 0) : Fun P T f args [] 0 r [] 0 := by
  refine fun_of_exec hc hlen (Nat.le_refl _) (exC_mono (callT_point P T) _ _ _ _ _ _ (exC_of_ev hF (callT_point P T) _ _ _ _ _ h) fun e fr m n h => ?_)
  have key : (evRes T fr sf.res m n fun l _ _ => retOf l = r) → exRes T fr sf.res m n fun l m1 n1 => ∃ hs, EntM 0 m1 n1 hs [] 0 ∧ retOf l = r.ren (eta hs n1) := fun h =>
    exRes_mono (exRes_of_ev h) fun l m n h => ⟨[], ⟨rfl, Nat.le_refl _, rfl, trivial, trivial, trivial⟩, by rw [hr]; exact h⟩
  cases e with
  | normal => exact key h
  | exit j => exact h
  | ret => exact key h
end Go.Sx
