/- The engine, part W: each operation of the evaluator by itself. -/
import Derived.Test.YtflkcganpgjkkaaDoorEngV
import Derived.Laws.BitsLemmas
namespace Go.Sx
open Go
set_option linter.unusedSimpArgs false
set_option linter.unusedVariables false
section
variable {T : List (Nat × List SV)} {call : CallT} {fr : Fr} {m : Mem} {n : Nat} {K : Kt}

theorem e_box {e : TypeId} {x : Opd} : evO T call fr m n K (.box e x) = (match (x.ev fr).cells? with
      | some l => K (.ptr n 0) ((n, ⟨.own e, l⟩) :: m) (n + 1)
      | none => False) := (rfl)
theorem e_build {z : List SV} {parts : List (Nat × Nat × Opd)} : evO T call fr m n K (.build z parts) = (fillE fr z parts fun cs => K (.agg cs) m n) := (rfl)
theorem e_bslice {e : TypeId} {s : Nat} {k : Nat} {z : List SV} {parts : List (Nat × Nat × Opd)} : evO T call fr m n K (.bslice e s k z parts) = (fillE fr z parts fun cs => K (.slc n 0 s k (some k)) ((n, ⟨.own e, cs⟩) :: m) (n + 1)) := (rfl)
theorem e_load {agg : Option Nat} {x : Opd} : evO T call fr m n K (.load agg x) = (match x.ev fr with
      | .ptr i o => match rd m i with
        | some B => match agg with
          | none => match B.cells[o]? with
            | some v => K v m n
            | none => False
          | some k => o + k ≤ B.cells.length ∧ K (.agg ((B.cells.drop o).take k)) m n
        | none => False
      | .gp g o => match lookT T g with
        | some cs => match agg with
          | none => match cs[o]? with
            | some v => K v m n
            | none => False
          | some k => o + k ≤ cs.length ∧ K (.agg ((cs.drop o).take k)) m n
        | none => False
      | _ => False) := (rfl)
theorem e_store {k : Nat} {a : Opd} {x : Opd} : evO T call fr m n K (.store k a x) = (match a.ev fr with
      | .ptr i o => match rd m i with
        | some ⟨.own e, cells⟩ => match (x.ev fr).cells? with
          | some l => l.length = k ∧ o + k ≤ cells.length ∧ K .any (upd m i ⟨.own e, splice cells o l⟩) n
          | none => False
        | _ => False
      | _ => False) := (rfl)
theorem e_idxS {x : Opd} {i : Opd} {s : Nat} : evO T call fr m n K (.idxS x i s) = (match i.ev fr with
      | .int _ ix => match x.ev fr with
        | .slc b o s' len _ => match rd m b with
          | some B => s' = s ∧ 0 ≤ ix ∧ ix < len ∧ o + ix.toNat * s < B.cells.length ∧ K (.ptr b (o + ix.toNat * s)) m n
          | none => False
        | _ => False
      | _ => False) := (rfl)
theorem e_idxV {x : Opd} {i : Opd} {len : Nat} {s : Nat} {agg : Bool} : evO T call fr m n K (.idxV x i len s agg) = (match i.ev fr with
      | .int _ ix => match x.ev fr with
        | .agg l => 0 ≤ ix ∧ ix < len ∧ match agg with
          | true => K (.agg ((l.drop (ix.toNat * s)).take s)) m n
          | false => match l[ix.toNat * s]? with
            | some v => K v m n
            | none => False
        | _ => False
      | _ => False) := (rfl)
theorem e_idxT {x : Opd} {i : Opd} : evO T call fr m n K (.idxT x i) = (match i.ev fr with
      | .int _ ix => match x.ev fr with
        | .str t => 0 ≤ ix ∧ match t[ix.toNat]? with
          | some c => K (SV.byte c) m n
          | none => False
        | _ => False
      | _ => False) := (rfl)
theorem e_fieldV {x : Opd} {off : Nat} {agg : Option Nat} : evO T call fr m n K (.fieldV x off agg) = (match x.ev fr with
      | .agg l => match agg with
        | some k => K (.agg ((l.drop off).take k)) m n
        | none => match l[off]? with
          | some v => K v m n
          | none => False
      | _ => False) := (rfl)
theorem e_eqv {neg : Bool} {pat : List Tag} {x : Opd} {y : Opd} : evO T call fr m n K (.eqv neg pat x y) = (match x.ev fr, y.ev fr with
      | .agg l, .agg l' => match eqPat pat l l' with
        | some b => K (.bool (if neg then !b else b)) m n
        | none => False
      | _, _ => False) := (rfl)
theorem e_isNil {neg : Bool} {x : Opd} : evO T call fr m n K (.isNil neg x) = (match x.ev fr with
      | .val (.slice none 0 0) => K (.bool (!neg)) m n
      | .slc b o _ _ _ => match rd m b with
        | some B => o < B.cells.length ∧ K (.bool neg) m n
        | none => False
      | _ => False) := (rfl)
theorem e_b2s {x : Opd} : evO T call fr m n K (.b2s x) = (srcSlE m 1 (x.ev fr) fun _ l => l.all isU8 = true ∧ K (.str (l.map byteOf)) m n) := (rfl)
theorem e_slcS {s : Nat} {x : Opd} {lo : Option Opd} {hi : Option Opd} : evO T call fr m n K (.slcS s x lo hi) = (match x.ev fr with
      | .slc b o s' len cap =>
        s' = s ∧ (match cap with
          | none => (match rd m b with
            | some ⟨.own _, cells⟩ => o + len * s ≤ cells.length
            | _ => False)
          | some c => len ≤ c) ∧
        onOpt fr lo 0 fun l => onOpt fr hi len fun h => 0 ≤ l ∧ l ≤ h ∧ h ≤ len ∧
          K (.slc b (o + l.toNat * s) s (h.toNat - l.toNat) (cap.map (· - l.toNat))) m n
      | _ => False) := (rfl)
theorem e_arrAt {k : Nat} {x : Opd} : evO T call fr m n K (.arrAt k x) = (match x.ev fr with
      | .slc b o _ len _ => match rd m b with
        | some B => 0 < k ∧ k ≤ len ∧ o < B.cells.length ∧ K (.ptr b o) m n
        | none => False
      | _ => False) := (rfl)
theorem e_ext {x : Opd} {i : Nat} : evO T call fr m n K (.ext x i) = (match x.ev fr with
      | .tup l => match l[i]? with
        | some v => K v m n
        | none => False
      | _ => False) := (rfl)
theorem e_app {e : TypeId} {s : Nat} {bytes : Nat} {x : Opd} {y : Opd} : evO T call fr m n K (.app e s bytes x y) = (srcOfE m s (y.ev fr) fun k l =>
      match x.ev fr with
      | .slc i o s' len cap => match rd m i with
        | some ⟨.own e', cells⟩ => s' = s ∧ o = 0 ∧ cap = none ∧ (len + k) * bytes ≤ 2 ^ 40 ∧ bytes ≤ 2 ^ 20 ∧ e' = e ∧ len * s ≤ cells.length ∧
          K (.slc n 0 s (len + k) none) ((n, ⟨.own e, cells.take (len * s) ++ l⟩) :: rm m i) (n + 1)
        | _ => False
      | .val (.slice none 0 0) => k * bytes ≤ 2 ^ 40 ∧ bytes ≤ 2 ^ 20 ∧ K (.slc n 0 s k none) ((n, ⟨.own e, l⟩) :: m) (n + 1)
      | _ => False) := (rfl)
theorem e_copy {s : Nat} {x : Opd} {y : Opd} : evO T call fr m n K (.copy s x y) = (srcOfE m s (y.ev fr) fun k l =>
      match x.ev fr with
      | .slc i o s' len _ => match rd m i with
        | some ⟨.own e, cells⟩ => s' = s ∧ o + len * s ≤ cells.length ∧
          K (.int .i64 (min k len : Nat)) (upd m i ⟨.own e, splice cells o (l.take (min k len * s))⟩) n
        | _ => False
      | _ => False) := (rfl)
theorem e_mv {x : Opd} : evO T call fr m n K (.mv x) = (K (x.ev fr) m n) := (rfl)
theorem e_pick {c : Opd} {a : Opd} {b : Opd} : evO T call fr m n K (.pick c a b) = (match c.ev fr with | .bool t => gd t true (K (a.ev fr) m n) (K (b.ev fr) m n) | _ => False) := (rfl)
theorem e_new {e : TypeId} {z : List SV} : evO T call fr m n K (.new e z) = (K (.ptr n 0) ((n, ⟨.own e, z⟩) :: m) (n + 1)) := (rfl)
theorem e_nilc {x : Opd} : evO T call fr m n K (.nilc x) = (match x.ev fr with
      | .ptr i o => K (.ptr i o) m n
      | .gp g o => K (.gp g o) m n
      | .fn f a b => K (.fn f a b) m n
      | _ => False) := (rfl)
theorem e_fld {x : Opd} {off : Nat} : evO T call fr m n K (.fld x off) = (match x.ev fr with
      | .ptr i o => K (.ptr i (o + off)) m n
      | .gp g o => K (.gp g (o + off)) m n
      | _ => False) := (rfl)
theorem e_idxA {x : Opd} {i : Opd} {len : Nat} {s : Nat} : evO T call fr m n K (.idxA x i len s) = (onInt (i.ev fr) fun ix => 0 ≤ ix ∧ ix < len ∧
      match x.ev fr with
      | .ptr b o => K (.ptr b (o + ix.toNat * s)) m n
      | .gp b o => K (.gp b (o + ix.toNat * s)) m n
      | _ => False) := (rfl)
theorem e_bin {op : BinOp} {x : Opd} {y : Opd} : evO T call fr m n K (.bin op x y) = (binV op (x.ev fr) (y.ev fr) fun v => K v m n) := (rfl)
theorem e_eqb {neg : Bool} {x : Opd} {y : Opd} : evO T call fr m n K (.eqb neg x y) = (match x.ev fr, y.ev fr with
      | .bool a, .bool c => K (.bool (if neg then !(a == c) else a == c)) m n
      | _, _ => False) := (rfl)
theorem e_un {op : UnOp} {x : Opd} : evO T call fr m n K (.un op x) = (match op, x.ev fr with
      | .not, .bool b => K (.bool (!b)) m n
      | .neg, .int k a => K (.int k (k.wrap (0 - a))) m n
      | .xor, .int k a => K (.int k (bitop .xor k (if k.signed then -1 else k.max) a)) m n
      | _, _ => False) := (rfl)
theorem e_conv {k : IntKind} {x : Opd} : evO T call fr m n K (.conv k x) = (match x.ev fr with
      | .int _ a => K (.int k (k.wrap a)) m n
      | _ => False) := (rfl)
theorem e_strS {x : Opd} : evO T call fr m n K (.strS x) = (match x.ev fr with
      | .str t => K (.str t) m n
      | _ => False) := (rfl)
theorem e_s2b {e : TypeId} {x : Opd} : evO T call fr m n K (.s2b e x) = (match x.ev fr with
      | .str t => K (.slc n 0 1 t.length none) ((n, ⟨.own e, t.map SV.byte⟩) :: m) (n + 1)
      | _ => False) := (rfl)
theorem e_mkfn {f : FuncId} {first : List Opd} {cap : List Opd} : evO T call fr m n K (.mkfn f first cap) = (K (.fn f (first.map (·.ev fr)) (cap.map (·.ev fr))) m n) := (rfl)
theorem e_mksl {e : TypeId} {s : Nat} {bytes : Nat} {z : List SV} {l : Opd} {c : Opd} : evO T call fr m n K (.mksl e s bytes z l c) = (onInt (l.ev fr) fun ln => onInt (c.ev fr) fun cp => 0 ≤ ln ∧ ln ≤ cp ∧ cp * bytes ≤ 2 ^ 40 ∧ cp ≤ 2 ^ 40 ∧
        K (.slc n 0 s ln.toNat (some cp.toNat)) ((n, ⟨.own e, rep cp.toNat z⟩) :: m) (n + 1)) := (rfl)
theorem e_slcA {k : Nat} {s : Nat} {x : Opd} {lo : Option Opd} {hi : Option Opd} : evO T call fr m n K (.slcA k s x lo hi) = (match x.ev fr with
      | .ptr b o => onOpt fr lo 0 fun l => onOpt fr hi k fun h => 0 ≤ l ∧ l ≤ h ∧ h ≤ k ∧
          K (.slc b (o + l.toNat * s) s (h.toNat - l.toNat) (some (k - l.toNat))) m n
      | _ => False) := (rfl)
theorem e_slcT {x : Opd} {lo : Option Opd} {hi : Option Opd} : evO T call fr m n K (.slcT x lo hi) = (match x.ev fr with
      | .str t => onOpt fr lo 0 fun l => onOpt fr hi t.length fun h => 0 ≤ l ∧ l ≤ h ∧ h ≤ t.length ∧
          K (.str ((t.drop l.toNat).take (h.toNat - l.toNat))) m n
      | _ => False) := (rfl)
theorem e_call {f : FuncId} {args : List Opd} : evO T call fr m n K (.call f args) = (call f (args.map (·.ev fr)) m n K) := (rfl)
theorem e_callp {f : FuncId} {args : List Opd} : evO T call fr m n K (.callp f args) = (SV.flatL (args.map (·.ev fr)) = true ∧ call f (args.map (·.ev fr)) [] 0 fun v m' n' => m' = [] ∧ n' = 0 ∧ v.flat = true ∧ K v m n) := (rfl)
theorem e_callv {x : Opd} {args : List Opd} : evO T call fr m n K (.callv x args) = (match x.ev fr with
      | .fn f first cap => call f (first ++ args.map (·.ev fr) ++ cap) m n K
      | _ => False) := (rfl)
theorem e_len {isStr : Bool} {x : Opd} : evO T call fr m n K (.len isStr x) = (match isStr, x.ev fr with
      | true, .str t => K (.int .i64 t.length) m n
      | false, .slc _ _ _ l _ => K (.int .i64 l) m n
      | false, .val (.slice none 0 0) => K (.int .i64 0) m n
      | _, _ => False) := (rfl)
theorem e_lenA {k : Nat} : evO T call fr m n K (.lenA k) = (K (.int .i64 k) m n) := (rfl)
theorem e_mx {x : Opd} {y : Opd} : evO T call fr m n K (.mx x y) = (match x.ev fr, y.ev fr with
      | .int k a, .int _ b => K (.int k (if b > a then b else a)) m n
      | _, _ => False) := (rfl)
theorem e_mn {x : Opd} {y : Opd} : evO T call fr m n K (.mn x y) = (match x.ev fr, y.ev fr with
      | .int k a, .int _ b => K (.int k (if b < a then b else a)) m n
      | _, _ => False) := (rfl)
end

/-- the slot g, of which something is known -/
def setv : Fr → Nat → SV → Fr
  | [], _, _ => []
  | (e, u) :: r, g, v => if e = g then (e, v) :: r else (e, u) :: setv r g v

theorem setv_self : ∀ {fr : Fr} {g : Nat} {v : SV}, Sx.get fr g = v → setv fr g v = fr
  | [], _, _, _ => rfl
  | (e, u) :: r, g, v, h => by
    unfold Sx.get at h
    unfold setv
    split
    · rename_i he; rw [if_pos he] at h; rw [h]
    · rename_i he; rw [if_neg he] at h; rw [setv_self h]

theorem den_g {T : List (Nat × List SV)} {c1 c2 : CallT} {u : Option Nat} {n0 : Nat} {Q : Post} {st : List It} {fr : Fr} {m : Mem} {n : Nat} {l : List Opr} {d : Option Nat} {op : SOp} {g : Nat} {t : Bool} {ks p h : List Nat} :
    den T c1 c2 u n0 Q (.o (⟨d, op, some (g, t), ks, p, h⟩ :: l) :: st) .normal fr m n =
    (match Sx.get fr g with
      | .bool t' => gd t' t (evO T c1 (setv fr g (.bool t)) m n (kont T c1 c2 u n0 Q l st (setv fr g (.bool t)) d ks) op)
          (den T c1 c2 u n0 Q (.o l :: st) .normal (dels (putO (setv fr g (.bool (!t))) d (.val undef)) ks) m n)
      | .val (.tuple _) => den T c1 c2 u n0 Q (.o l :: st) .normal (dels (putO fr d (.val undef)) ks) m n
      | _ => False) := by
  rw [den_o2]
  generalize hg : Sx.get fr g = gv
  cases gv with
  | bool t' =>
    apply propext
    constructor
    · rintro ⟨h1, h2⟩
      refine ⟨fun e => ?_, fun e => ?_⟩
      · rw [setv_self (by rw [hg, e])]; exact h1 e
      · rw [setv_self (by rw [hg, e])]; exact h2 e
    · rintro ⟨h1, h2⟩
      refine ⟨fun e => ?_, fun e => ?_⟩
      · have := h1 e; rwa [setv_self (by rw [hg, e])] at this
      · have := h2 e; rwa [setv_self (by rw [hg, e])] at this
  | val v => cases v <;> rfl
  | _ => rfl

theorem u_pick {b : Bool} {A B : Prop} : ((b = true → A) ∧ (b = false → B)) = (match b with | true => A | false => B) := by
  cases b <;> simp

theorem wrap64 {n : Int} (h1 : -9223372036854775808 ≤ n) (h2 : n ≤ 9223372036854775807) : IntKind.i64.wrap n = n := by
  rw [IntKind.wrap_i64]; omega
theorem wrapU {n : Int} {k : IntKind} (hk : k.signed = false) (h1 : 0 ≤ n) (h2 : n < 2 ^ k.bits) : k.wrap n = n := by
  simp only [IntKind.wrap, hk, Bool.false_and, Bool.false_eq_true, if_false]
  exact Int.emod_eq_of_lt h1 h2
end Go.Sx
