/- The engine, part C: the operations on symbolic states. -/
import Derived.Test.YtflkcganpgjkkaaDoorEngB
namespace Go.Sx
open Go
set_option linter.unusedSimpArgs false
set_option linter.unusedVariables false

inductive Opd where
  | t (n : Nat)
  | c (v : SV)
  | g (n : Nat)
  | f (n : FuncId)

abbrev Fr := List (Nat × SV)
def get : Fr → Nat → SV
  | [], _ => .any
  | (e, v) :: r, d => if e = d then v else get r d
def del : Fr → Nat → Fr
  | [], _ => []
  | (e, v) :: r, d => if e = d then del r d else (e, v) :: del r d
def put (fr : Fr) (d : Nat) (v : SV) : Fr := (d, v) :: del fr d
def dels : Fr → List Nat → Fr
  | fr, [] => fr
  | fr, d :: r => dels (del fr d) r

def Opd.ev (fr : Fr) : Opd → SV
  | .t n => get fr n
  | .c v => v
  | .g n => .gp n 0
  | .f n => .fn n [] []

/-- the kinds of plain cells -/
inductive Tag where
  | i (k : IntKind)
  | b
  | s
  deriving DecidableEq

inductive SOp where
  | mv (x : Opd)
  | pick (c a b : Opd)
  | new (e : TypeId) (z : List SV)
  | box (e : TypeId) (x : Opd)
  | build (z : List SV) (parts : List (Nat × Nat × Opd))
  | bslice (e : TypeId) (s n : Nat) (z : List SV) (parts : List (Nat × Nat × Opd))
  | load (agg : Option Nat) (x : Opd)
  | store (n : Nat) (a x : Opd)
  | nilc (x : Opd)
  | fld (x : Opd) (off : Nat)
  | idxA (x i : Opd) (len s : Nat)
  | idxS (x i : Opd) (s : Nat)
  | idxV (x i : Opd) (len s : Nat) (agg : Bool)
  | idxT (x i : Opd)
  | fieldV (x : Opd) (off : Nat) (agg : Option Nat)
  | bin (op : BinOp) (x y : Opd)
  | eqv (neg : Bool) (pat : List Tag) (x y : Opd)
  | eqb (neg : Bool) (x y : Opd)
  | isNil (neg : Bool) (x : Opd)
  | un (op : UnOp) (x : Opd)
  | conv (k : IntKind) (x : Opd)
  | b2s (x : Opd)
  | strS (x : Opd)
  | s2b (e : TypeId) (x : Opd)
  | mkfn (f : FuncId) (first cap : List Opd)
  | mksl (e : TypeId) (s bytes : Nat) (z : List SV) (l c : Opd)
  | slcS (s : Nat) (x : Opd) (lo hi : Option Opd)
  | slcA (n s : Nat) (x : Opd) (lo hi : Option Opd)
  | slcT (x : Opd) (lo hi : Option Opd)
  | arrAt (n : Nat) (x : Opd)
  | ext (x : Opd) (i : Nat)
  | call (f : FuncId) (args : List Opd)
  | callv (x : Opd) (args : List Opd)
  | callp (f : FuncId) (args : List Opd)
  | len (isStr : Bool) (x : Opd)
  | lenA (n : Nat)
  | app (e : TypeId) (s bytes : Nat) (x y : Opd)
  | copy (s : Nat) (x y : Opd)
  | mx (x y : Opd)
  | mn (x y : Opd)

def rd (m : Mem) (i : Nat) : Option Blk :=
  match m with
  | [] => none
  | (j, B) :: r => if j = i then some B else rd r i

theorem rd_mem {m : Mem} {i : Nat} {B : Blk} (h : rd m i = some B) : (i, B) ∈ m := by
  induction m with
  | nil => simp [rd] at h
  | cons x r ih =>
    obtain ⟨j, B'⟩ := x
    unfold rd at h
    split at h
    · rename_i e; subst e; cases h; exact List.mem_cons_self
    · exact List.mem_cons_of_mem _ (ih h)

def rm (m : Mem) (i : Nat) : Mem :=
  match m with
  | [] => []
  | (j, B) :: r => if j = i then rm r i else (j, B) :: rm r i

theorem mem_rm {m : Mem} {i : Nat} {x : Nat × Blk} (h : x ∈ rm m i) : x ∈ m ∧ x.1 ≠ i := by
  induction m with
  | nil => simp [rm] at h
  | cons y r ih =>
    obtain ⟨j, B'⟩ := y
    unfold rm at h
    split at h
    · exact ⟨List.mem_cons_of_mem _ (ih h).1, (ih h).2⟩
    · rename_i hne
      rcases List.mem_cons.1 h with h | h
      · subst h; exact ⟨List.mem_cons_self, hne⟩
      · exact ⟨List.mem_cons_of_mem _ (ih h).1, (ih h).2⟩

def SV.cells? : SV → Option (List SV)
  | .agg l => some l
  | v => if v.one then some [v] else none

def splice (cs : List SV) (o : Nat) (l : List SV) : List SV := cs.take o ++ l ++ cs.drop (o + l.length)

def fillS (fr : Fr) : List SV → List (Nat × Nat × Opd) → (List SV → Prop) → Prop
  | cs, [], F => F cs
  | cs, (off, size, x) :: r, F => ∃ l, (x.ev fr).cells? = some l ∧ l.length = size ∧ off + size ≤ cs.length ∧ fillS fr (splice cs off l) r F

def bitop (op : BinOp) (k : IntKind) (x y : Int) : Int :=
  let a := BitVec.ofInt k.bits x
  let b := BitVec.ofInt k.bits y
  k.wrap (match op with
    | .and => (a &&& b).toNat
    | .or => (a ||| b).toNat
    | .xor => (a ^^^ b).toNat
    | _ => (a &&& ~~~b).toNat : Nat)

def maxStr : Nat := 9223372036854775807

def binI (op : BinOp) (k k' : IntKind) (a b : Int) (F : SV → Prop) : Prop :=
  match op with
  | .shl => 0 ≤ b ∧ F (.int k (k.wrap (a * 2 ^ (min b.toNat k.bits))))
  | .shr => 0 ≤ b ∧ F (.int k (a.fdiv (2 ^ (min b.toNat k.bits))))
  | .add => k = k' ∧ F (.int k (k.wrap (a + b)))
  | .sub => k = k' ∧ F (.int k (k.wrap (a - b)))
  | .mul => k = k' ∧ F (.int k (k.wrap (a * b)))
  | .quo => k = k' ∧ b ≠ 0 ∧ F (.int k (k.wrap (a.tdiv b)))
  | .rem => k = k' ∧ b ≠ 0 ∧ F (.int k (a.tmod b))
  | .and | .or | .xor | .andNot => k = k' ∧ F (.int k (bitop op k a b))
  | .eql => k = k' ∧ F (.bool (a == b))
  | .neq => k = k' ∧ F (.bool (a != b))
  | .lss => k = k' ∧ F (.bool (decide (a < b)))
  | .leq => k = k' ∧ F (.bool (decide (a ≤ b)))
  | .gtr => k = k' ∧ F (.bool (decide (a > b)))
  | .geq => k = k' ∧ F (.bool (decide (a ≥ b)))

def binS (op : BinOp) (a b : List UInt8) (F : SV → Prop) : Prop :=
  match op with
  | .add => a.length + b.length ≤ maxStr ∧ F (.str (a ++ b))
  | .eql => F (.bool (a == b))
  | .neq => F (.bool (!(a == b)))
  | .lss => F (.bool (Op.bytesLess a b))
  | .leq => F (.bool (Op.bytesLess a b || a == b))
  | .gtr => F (.bool (!(Op.bytesLess a b || a == b)))
  | .geq => F (.bool (!(Op.bytesLess a b)))
  | _ => False

def binV (op : BinOp) (x y : SV) (F : SV → Prop) : Prop :=
  match x, y with
  | .int k a, .int k' b => binI op k k' a b F
  | .str a, .str b => binS op a b F
  | _, _ => False

/-- equality of two plain cells -/
def eqTag : Tag → SV → SV → Option Bool
  | .i k, .int k1 a, .int k2 c => if k1 = k ∧ k2 = k then some (a == c) else none
  | .b, .bool a, .bool c => some (a == c)
  | .s, .str a, .str c => some (a == c)
  | _, _, _ => none
def eqPat : List Tag → List SV → List SV → Option Bool
  | [], [], [] => some true
  | p :: ps, a :: l, c :: m => match eqTag p a c, eqPat ps l m with
    | some x, some y => some (x && y)
    | _, _ => none
  | _, _, _ => none

def onInt (v : SV) (F : Int → Prop) : Prop :=
  match v with
  | .int _ n => F n
  | _ => False
def onBool (v : SV) (F : Bool → Prop) : Prop :=
  match v with
  | .bool b => F b
  | _ => False
def onOpt (fr : Fr) (x : Option Opd) (d : Int) (F : Int → Prop) : Prop :=
  match x with
  | none => F d
  | some o => onInt (o.ev fr) F

def isU8 : SV → Bool
  | .int .u8 _ => true
  | _ => false
def byteOf : SV → UInt8
  | .int _ n => UInt8.ofNat n.toNat
  | _ => 0
def SV.byte (c : UInt8) : SV := .int .u8 (c.toNat : Int)

/-- the cells that a slice holds -/
def srcSl (m : Mem) (s : Nat) (v : SV) (F : Nat → List SV → Prop) : Prop :=
  match v with
  | .slc i o s' len _ => s' = s ∧ ∃ B, rd m i = some B ∧ o + len * s ≤ B.cells.length ∧ F len ((B.cells.drop o).take (len * s))
  | .val (.slice none 0 0) => F 0 []
  | _ => False
/-- the cells that a slice or a string holds -/
def srcOf (m : Mem) (s : Nat) (v : SV) (F : Nat → List SV → Prop) : Prop :=
  match v with
  | .str t => s = 1 ∧ F t.length (t.map SV.byte)
  | v => srcSl m s v F

/-- n times the cells z -/
def rep (n : Nat) (z : List SV) : List SV := (List.range (n * z.length)).map fun j => z.getD (j % z.length) .any
theorem rep_one (n : Nat) (v : SV) : rep n [v] = List.replicate n v := by
  unfold rep
  apply List.ext_getElem
  · simp
  · intro i h1 h2; simp [Nat.mod_one]

abbrev Kt := SV → Mem → Nat → Prop
/-- what is known of calls -/
abbrev CallT := FuncId → List SV → Mem → Nat → Kt → Prop

def exO (T : List (Nat × List SV)) (call : CallT) (fr : Fr) (m : Mem) (n : Nat) (K : Kt) : SOp → Prop
  | .mv x => K (x.ev fr) m n
  | .pick c a b => onBool (c.ev fr) fun t => (t = true → K (a.ev fr) m n) ∧ (t = false → K (b.ev fr) m n)
  | .new e z => K (.ptr n 0) ((n, ⟨.own e, z⟩) :: m) (n + 1)
  | .box e x => ∃ l, (x.ev fr).cells? = some l ∧ K (.ptr n 0) ((n, ⟨.own e, l⟩) :: m) (n + 1)
  | .build z parts => fillS fr z parts fun cs => K (.agg cs) m n
  | .bslice e s k z parts => fillS fr z parts fun cs => K (.slc n 0 s k (some k)) ((n, ⟨.own e, cs⟩) :: m) (n + 1)
  | .load agg x =>
    match x.ev fr with
    | .ptr i o => ∃ B, rd m i = some B ∧
      match agg with
      | none => ∃ v, B.cells[o]? = some v ∧ K v m n
      | some k => o + k ≤ B.cells.length ∧ K (.agg ((B.cells.drop o).take k)) m n
    | .gp g o => ∃ cs, (g, cs) ∈ T ∧
      match agg with
      | none => ∃ v, cs[o]? = some v ∧ K v m n
      | some k => o + k ≤ cs.length ∧ K (.agg ((cs.drop o).take k)) m n
    | _ => False
  | .store k a x =>
    match a.ev fr with
    | .ptr i o => ∃ B e l, rd m i = some B ∧ B.kind = .own e ∧ (x.ev fr).cells? = some l ∧ l.length = k ∧ o + k ≤ B.cells.length ∧
        K .any (upd m i ⟨.own e, splice B.cells o l⟩) n
    | _ => False
  | .nilc x =>
    match x.ev fr with
    | .ptr i o => K (.ptr i o) m n
    | .gp g o => K (.gp g o) m n
    | .fn f a b => K (.fn f a b) m n
    | _ => False
  | .fld x off =>
    match x.ev fr with
    | .ptr i o => K (.ptr i (o + off)) m n
    | .gp g o => K (.gp g (o + off)) m n
    | _ => False
  | .idxA x i len s =>
    onInt (i.ev fr) fun ix => 0 ≤ ix ∧ ix < len ∧
    match x.ev fr with
    | .ptr b o => K (.ptr b (o + ix.toNat * s)) m n
    | .gp b o => K (.gp b (o + ix.toNat * s)) m n
    | _ => False
  | .idxS x i s =>
    onInt (i.ev fr) fun ix =>
    match x.ev fr with
    | .slc b o s' len _ => s' = s ∧ 0 ≤ ix ∧ ix < len ∧ ∃ B, rd m b = some B ∧ o + ix.toNat * s < B.cells.length ∧ K (.ptr b (o + ix.toNat * s)) m n
    | _ => False
  | .idxV x i len s agg =>
    onInt (i.ev fr) fun ix => 0 ≤ ix ∧ ix < len ∧
    match x.ev fr with
    | .agg l => match agg with
      | true => K (.agg ((l.drop (ix.toNat * s)).take s)) m n
      | false => ∃ v, l[ix.toNat * s]? = some v ∧ K v m n
    | _ => False
  | .idxT x i =>
    onInt (i.ev fr) fun ix => 0 ≤ ix ∧
    match x.ev fr with
    | .str t => ∃ c, t[ix.toNat]? = some c ∧ K (SV.byte c) m n
    | _ => False
  | .fieldV x off agg =>
    match x.ev fr with
    | .agg l => match agg with
      | some k => K (.agg ((l.drop off).take k)) m n
      | none => ∃ v, l[off]? = some v ∧ K v m n
    | _ => False
  | .bin op x y => binV op (x.ev fr) (y.ev fr) fun v => K v m n
  | .eqv neg pat x y =>
    match x.ev fr, y.ev fr with
    | .agg l, .agg l' => ∃ b, eqPat pat l l' = some b ∧ K (.bool (if neg then !b else b)) m n
    | _, _ => False
  | .eqb neg x y =>
    match x.ev fr, y.ev fr with
    | .bool a, .bool c => K (.bool (if neg then !(a == c) else a == c)) m n
    | _, _ => False
  | .isNil neg x =>
    match x.ev fr with
    | .val (.slice none 0 0) => K (.bool (!neg)) m n
    | .slc b o _ _ _ => (∃ B, rd m b = some B ∧ o < B.cells.length) ∧ K (.bool neg) m n
    | _ => False
  | .un op x =>
    match op, x.ev fr with
    | .not, .bool b => K (.bool (!b)) m n
    | .neg, .int k a => K (.int k (k.wrap (0 - a))) m n
    | .xor, .int k a => K (.int k (bitop .xor k (if k.signed then -1 else k.max) a)) m n
    | _, _ => False
  | .conv k x =>
    match x.ev fr with
    | .int _ a => K (.int k (k.wrap a)) m n
    | _ => False
  | .strS x =>
    match x.ev fr with
    | .str t => K (.str t) m n
    | _ => False
  | .b2s x => srcSl m 1 (x.ev fr) fun _ l => l.all isU8 = true ∧ K (.str (l.map byteOf)) m n
  | .s2b e x =>
    match x.ev fr with
    | .str t => K (.slc n 0 1 t.length none) ((n, ⟨.own e, t.map SV.byte⟩) :: m) (n + 1)
    | _ => False
  | .mkfn f first cap => K (.fn f (first.map (·.ev fr)) (cap.map (·.ev fr))) m n
  | .mksl e s bytes z l c =>
    onInt (l.ev fr) fun ln => onInt (c.ev fr) fun cp => 0 ≤ ln ∧ ln ≤ cp ∧ cp * bytes ≤ 2 ^ 40 ∧ cp ≤ 2 ^ 40 ∧
      K (.slc n 0 s ln.toNat (some cp.toNat)) ((n, ⟨.own e, rep cp.toNat z⟩) :: m) (n + 1)
  | .slcS s x lo hi =>
    match x.ev fr with
    | .slc b o s' len cap =>
      s' = s ∧ (match cap with
        | none => ∃ B e, rd m b = some B ∧ B.kind = .own e ∧ o + len * s ≤ B.cells.length
        | some c => len ≤ c) ∧
      onOpt fr lo 0 fun l => onOpt fr hi len fun h => 0 ≤ l ∧ l ≤ h ∧ h ≤ len ∧
        K (.slc b (o + l.toNat * s) s (h.toNat - l.toNat) (cap.map (· - l.toNat))) m n
    | _ => False
  | .slcA k s x lo hi =>
    match x.ev fr with
    | .ptr b o => onOpt fr lo 0 fun l => onOpt fr hi k fun h => 0 ≤ l ∧ l ≤ h ∧ h ≤ k ∧
        K (.slc b (o + l.toNat * s) s (h.toNat - l.toNat) (some (k - l.toNat))) m n
    | _ => False
  | .slcT x lo hi =>
    match x.ev fr with
    | .str t => onOpt fr lo 0 fun l => onOpt fr hi t.length fun h => 0 ≤ l ∧ l ≤ h ∧ h ≤ t.length ∧
        K (.str ((t.drop l.toNat).take (h.toNat - l.toNat))) m n
    | _ => False
  | .arrAt k x =>
    match x.ev fr with
    | .slc b o _ len _ => 0 < k ∧ k ≤ len ∧ (∃ B, rd m b = some B ∧ o < B.cells.length) ∧ K (.ptr b o) m n
    | _ => False
  | .ext x i =>
    match x.ev fr with
    | .tup l => ∃ v, l[i]? = some v ∧ K v m n
    | _ => False
  | .call f args => call f (args.map (·.ev fr)) m n K
  | .callp f args => SV.flatL (args.map (·.ev fr)) = true ∧ call f (args.map (·.ev fr)) [] 0 fun v m' n' => m' = [] ∧ n' = 0 ∧ v.flat = true ∧ K v m n
  | .callv x args =>
    match x.ev fr with
    | .fn f first cap => call f (first ++ args.map (·.ev fr) ++ cap) m n K
    | _ => False
  | .len isStr x =>
    match isStr, x.ev fr with
    | true, .str t => K (.int .i64 t.length) m n
    | false, .slc _ _ _ l _ => K (.int .i64 l) m n
    | false, .val (.slice none 0 0) => K (.int .i64 0) m n
    | _, _ => False
  | .lenA k => K (.int .i64 k) m n
  | .app e s bytes x y =>
    srcOf m s (y.ev fr) fun k l =>
    match x.ev fr with
    | .slc i o s' len cap => s' = s ∧ o = 0 ∧ cap = none ∧ (len + k) * bytes ≤ 2 ^ 40 ∧ bytes ≤ 2 ^ 20 ∧ ∃ B, rd m i = some B ∧ B.kind = .own e ∧ len * s ≤ B.cells.length ∧
        K (.slc n 0 s (len + k) none) ((n, ⟨.own e, B.cells.take (len * s) ++ l⟩) :: rm m i) (n + 1)
    | .val (.slice none 0 0) => k * bytes ≤ 2 ^ 40 ∧ bytes ≤ 2 ^ 20 ∧ K (.slc n 0 s k none) ((n, ⟨.own e, l⟩) :: m) (n + 1)
    | _ => False
  | .copy s x y =>
    srcOf m s (y.ev fr) fun k l =>
    match x.ev fr with
    | .slc i o s' len _ => s' = s ∧ ∃ B e, rd m i = some B ∧ B.kind = .own e ∧ o + len * s ≤ B.cells.length ∧
        K (.int .i64 (min k len : Nat)) (upd m i ⟨.own e, splice B.cells o (l.take (min k len * s))⟩) n
    | _ => False
  | .mx x y =>
    match x.ev fr, y.ev fr with
    | .int k a, .int _ b => K (.int k (if b > a then b else a)) m n
    | _, _ => False
  | .mn x y =>
    match x.ev fr, y.ev fr with
    | .int k a, .int _ b => K (.int k (if b < a then b else a)) m n
    | _, _ => False

/-- one operation of a region: its destination, what it does, its guard (a slot and the wanted bool), and the slots that nobody reads any more behind it -/
structure Opr where
  dst : Option Nat
  op : SOp
  guard : Option (Nat × Bool)
  kill : List Nat
  pre : List Nat := []
  hide : List Nat := []

inductive SC where
  | skip
  | reg (ops : List Opr)
  | regD (k : Nat) (ops : List Opr)
  | regP (k : Nat) (ops : List Opr)
  | regW (k : Nat) (ops : List Opr)
  | bad
  | seq (a b : SC)
  | cond (x : Opd) (a b : SC)
  | block (id : Nat) (c : SC)
  | loop (c : SC)
  | exit (id : Nat)
  | ret

inductive SX where
  | normal
  | exit (id : Nat)
  | ret

abbrev Post := SX → Fr → Mem → Nat → Prop

def putO (fr : Fr) (d : Option Nat) (v : SV) : Fr :=
  match d with
  | some d => put fr d v
  | none => fr

def exR (T : List (Nat × List SV)) (call : CallT) : List Opr → Fr → Mem → Nat → (Fr → Mem → Nat → Prop) → Prop
  | [], fr, m, n, K => K fr m n
  | o :: r, fr, m, n, K =>
    match o.guard with
    | none => exO T call fr m n (fun v m' n' => exR T call r (dels (putO fr o.dst v) o.kill) m' n' K) o.op
    | some (g, b) =>
      match get fr g with
      | .bool t => (t = b → exO T call fr m n (fun v m' n' => exR T call r (dels (putO fr o.dst v) o.kill) m' n' K) o.op) ∧
          (t = !b → exR T call r (dels (putO fr o.dst (.val undef)) o.kill) m n K)
      | .val (.tuple _) => exR T call r (dels (putO fr o.dst (.val undef)) o.kill) m n K
      | _ => False

/-- an operation that is done, in a region whose order is open: its slot, its value, its new blocks -/
structure Dn where
  dst : Option Nat
  v : SV
  new : Mem
  lo : Nat
  hi : Nat

def views : Mem → Mem
  | [] => []
  | (i, B) :: r => (i, ⟨.view, B.cells⟩) :: views r
def newer (n : Nat) : Mem → Mem
  | [] => []
  | (i, B) :: r => match B.kind with
    | .own e => if n ≤ i then (i, ⟨.own e, B.cells⟩) :: newer n r else newer n r
    | .view => newer n r
def pickD (done : List Dn) : List Nat → List Dn
  | [] => []
  | j :: r => match done[j]? with
    | some d => d :: pickD done r
    | none => pickD done r
def frD : List Dn → Fr → Fr
  | [], fr => fr
  | d :: r, fr => putO (frD r fr) d.dst d.v
def memD : List Dn → Mem → Mem
  | [], m => m
  | d :: r, m => d.new ++ memD r m
def kills : List Opr → List Nat
  | [] => []
  | o :: r => o.kill ++ kills r

def exA (T : List (Nat × List SV)) (call : CallT) (fr0 : Fr) (m0 : Mem) : List Opr → List Dn → Nat → (List Dn → Nat → Prop) → Prop
  | [], done, n, K => K done n
  | o :: r, done, n, K =>
    match o.guard with
    | none => exO T call (frD (pickD done o.pre) (dels fr0 o.hide)) (views (memD (pickD done o.pre) m0)) n (fun v m' n' => n ≤ n' ∧ exA T call fr0 m0 r (done ++ [⟨o.dst, v, newer n m', n, n'⟩]) n' K) o.op
    | some (g, b) =>
      match get (frD (pickD done o.pre) (dels fr0 o.hide)) g with
      | .bool t => (t = b → exO T call (frD (pickD done o.pre) (dels fr0 o.hide)) (views (memD (pickD done o.pre) m0)) n (fun v m' n' => n ≤ n' ∧ exA T call fr0 m0 r (done ++ [⟨o.dst, v, newer n m', n, n'⟩]) n' K) o.op) ∧
          (t = !b → exA T call fr0 m0 r (done ++ [⟨o.dst, .val undef, [], n, n⟩]) n K)
      | .val (.tuple _) => exA T call fr0 m0 r (done ++ [⟨o.dst, .val undef, [], n, n⟩]) n K
      | _ => False

end Go.Sx
