/- The engine, part A: symbolic values, blocks, and what it means that a world is described by them. -/
import Derived.Calls
import Derived.LoopN
import Derived.Orders
import Derived.Scope
import Derived.KernelRfl
import Derived.Laws.Sem
import Derived.Laws.Cells
import Derived.Laws.IdiomCopy
import Derived.Laws.Strings2
namespace Go.Sx
open Go
set_option linter.unusedSimpArgs false
set_option linter.unusedVariables false

/-- where a symbolic block lies: its number (none: the nil slice's), its first cell, and how many cells there are from there on -/
structure Loc where
  blk : Option Nat
  st : Nat
  cap : Nat

abbrev Env := Nat → Option Loc

inductive SV where
  | any
  | int (k : IntKind) (n : Int)
  | bool (b : Bool)
  | str (s : List UInt8)
  | ptr (i o : Nat)
  | gp (g o : Nat)
  | slc (i o s len : Nat) (cap : Option Nat)
  | val (v : Value)
  | fn (f : FuncId) (first captured : List SV)
  | agg (l : List SV)
  | tup (l : List SV)

mutual
def SV.is (ρ : Env) : SV → Value → Prop
  | .any, _ => True
  | .int k n, x => x = .int k n
  | .bool b, x => x = .bool b
  | .str s, x => x = .string ⟨s.toArray⟩
  | .ptr i o, x => ∃ L b, ρ i = some L ∧ L.blk = some b ∧ x = .pointer (some ⟨b, L.st + o, none⟩)
  | .gp g o, x => x = .pointer (some ⟨g, o, none⟩)
  | .slc i o s len cap, x => ∃ L A, ρ i = some L ∧ x = .slice A len (cap.getD ((L.cap - o) / s)) ∧
      (A = L.blk.map (fun b => (⟨b, L.st + o, none⟩ : Addr)) ∨ (len = 0 ∧ cap.getD ((L.cap - o) / s) = 0 ∧ (A = none ↔ L.blk = none)))
  | .val v, x => x = v
  | .fn f as bs, x => ∃ as' bs', SV.isL ρ as as' ∧ SV.isL ρ bs bs' ∧ x = .func (.func f) as'.toArray bs'.toArray
  | .agg l, x => ∃ l', SV.isL ρ l l' ∧ (∀ y ∈ l', y.oneCell' = true) ∧ x = .agg l'.toArray
  | .tup l, x => ∃ l', SV.isL ρ l l' ∧ x = .tuple l'.toArray
def SV.isL (ρ : Env) : List SV → List Value → Prop
  | [], ys => ys = []
  | a :: l, ys => ∃ y ys', ys = y :: ys' ∧ SV.is ρ a y ∧ SV.isL ρ l ys'
end

/-- a symbolic value that fits one cell, whatever it stands for -/
def SV.one : SV → Bool
  | .any | .agg _ | .tup _ => false
  | .val v => v.oneCell'
  | _ => true

theorem SV.one_is {ρ : Env} {v : SV} {x : Value} (h : v.one = true) (hx : v.is ρ x) : x.oneCell' = true := by
  cases v <;> simp_all [SV.one, SV.is, Value.oneCell']
  case ptr => obtain ⟨L, _, b, _, rfl⟩ := hx; rfl
  case slc => obtain ⟨L, _, A, rfl, _⟩ := hx; rfl
  case fn => obtain ⟨_, _, _, _, rfl⟩ := hx; rfl

def Env.le (ρ ρ' : Env) : Prop := ∀ i L, ρ i = some L → ρ' i = some L
theorem Env.le_refl (ρ : Env) : ρ.le ρ := fun _ _ h => h
theorem Env.le_trans {a b c : Env} (h : a.le b) (h' : b.le c) : a.le c := fun i L e => h' i L (h i L e)

mutual
theorem SV.is_mono {ρ ρ' : Env} (h : ρ.le ρ') : ∀ (v : SV) (x : Value), v.is ρ x → v.is ρ' x
  | .any, _, _ => trivial
  | .int _ _, _, hx => hx
  | .bool _, _, hx => hx
  | .str _, _, hx => hx
  | .gp _ _, _, hx => hx
  | .val _, _, hx => hx
  | .ptr i o, x, hx => by
    simp only [SV.is] at hx ⊢
    obtain ⟨L, b, h1, h2, h3⟩ := hx; exact ⟨L, b, h _ _ h1, h2, h3⟩
  | .slc i o s len cap, x, hx => by
    simp only [SV.is] at hx ⊢
    obtain ⟨L, A, h1, h2⟩ := hx; exact ⟨L, A, h _ _ h1, h2⟩
  | .fn f as bs, x, hx => by
    simp only [SV.is] at hx ⊢
    obtain ⟨as', bs', h1, h2, h3⟩ := hx
    exact ⟨as', bs', SV.isL_mono h as as' h1, SV.isL_mono h bs bs' h2, h3⟩
  | .agg l, x, hx => by
    simp only [SV.is] at hx ⊢
    obtain ⟨l', h1, h2, h3⟩ := hx; exact ⟨l', SV.isL_mono h l l' h1, h2, h3⟩
  | .tup l, x, hx => by
    simp only [SV.is] at hx ⊢
    obtain ⟨l', h1, h3⟩ := hx; exact ⟨l', SV.isL_mono h l l' h1, h3⟩
theorem SV.isL_mono {ρ ρ' : Env} (h : ρ.le ρ') : ∀ (l : List SV) (xs : List Value), SV.isL ρ l xs → SV.isL ρ' l xs
  | [], xs, hx => by simpa only [SV.isL] using hx
  | a :: l, xs, hx => by
    simp only [SV.isL] at hx ⊢
    obtain ⟨y, ys, h1, h2, h3⟩ := hx
    exact ⟨y, ys, h1, SV.is_mono h a y h2, SV.isL_mono h l ys h3⟩
end

theorem SV.isL_length {ρ : Env} : ∀ {l : List SV} {xs : List Value}, SV.isL ρ l xs → xs.length = l.length
  | [], xs, h => by simp only [SV.isL] at h; subst h; rfl
  | a :: l, xs, h => by
    simp only [SV.isL] at h
    obtain ⟨y, ys, rfl, _, h3⟩ := h
    simp [SV.isL_length h3]

theorem SV.isL_get {ρ : Env} : ∀ {l : List SV} {xs : List Value}, SV.isL ρ l xs → ∀ (j : Nat) v, l[j]? = some v → ∃ x, xs[j]? = some x ∧ v.is ρ x
  | [], _, _, j, v, hj => by simp at hj
  | a :: l, xs, h, j, v, hj => by
    simp only [SV.isL] at h
    obtain ⟨y, ys, rfl, h2, h3⟩ := h
    cases j with
    | zero => simp at hj; subst hj; exact ⟨y, rfl, h2⟩
    | succ j => simpa using SV.isL_get h3 j v (by simpa using hj)

theorem SV.isL_of_get {ρ : Env} : ∀ {l : List SV} {xs : List Value}, xs.length = l.length →
    (∀ (j : Nat) v, l[j]? = some v → ∃ x, xs[j]? = some x ∧ v.is ρ x) → SV.isL ρ l xs
  | [], xs, hn, _ => by simp only [SV.isL]; simpa using hn
  | a :: l, xs, hn, h => by
    cases xs with
    | nil => simp at hn
    | cons y ys =>
      simp only [SV.isL]
      refine ⟨y, ys, rfl, ?_, SV.isL_of_get (by simpa using hn) (fun j v hj => ?_)⟩
      · obtain ⟨x, hx, hv⟩ := h 0 a rfl
        simp at hx; subst hx; exact hv
      · simpa using h (j + 1) v (by simpa using hj)

-- renaming of blocks: block i of the small description is block (η i).1 of the large one, from its cell (η i).2 on
mutual
def SV.ren (η : Nat → Nat × Nat) : SV → SV
  | .any => .any
  | .int k n => .int k n
  | .bool b => .bool b
  | .str s => .str s
  | .ptr i o => .ptr (η i).1 ((η i).2 + o)
  | .gp g o => .gp g o
  | .slc i o s len cap => .slc (η i).1 ((η i).2 + o) s len cap
  | .val v => .val v
  | .fn f as bs => .fn f (SV.renL η as) (SV.renL η bs)
  | .agg l => .agg (SV.renL η l)
  | .tup l => .tup (SV.renL η l)
def SV.renL (η : Nat → Nat × Nat) : List SV → List SV
  | [] => []
  | a :: l => SV.ren η a :: SV.renL η l
end

theorem SV.renL_eq (η : Nat → Nat × Nat) : ∀ l, SV.renL η l = l.map (SV.ren η)
  | [] => by simp [SV.renL]
  | a :: l => by simp [SV.renL, SV.renL_eq η l]

def Loc.shift (L : Loc) (s : Nat) : Loc := ⟨L.blk, L.st + s, L.cap - s⟩
def Env.via (ρ : Env) (η : Nat → Nat × Nat) : Env := fun i => (ρ (η i).1).map (·.shift (η i).2)

mutual
theorem SV.is_ren {ρ : Env} {η : Nat → Nat × Nat} : ∀ (v : SV) (x : Value), (v.ren η).is ρ x ↔ v.is (ρ.via η) x
  | .any, _ => by simp [SV.ren, SV.is]
  | .int _ _, _ => by simp [SV.ren, SV.is]
  | .bool _, _ => by simp [SV.ren, SV.is]
  | .str _, _ => by simp [SV.ren, SV.is]
  | .gp _ _, _ => by simp [SV.ren, SV.is]
  | .val _, _ => by simp [SV.ren, SV.is]
  | .ptr i o, x => by
    simp only [SV.ren, SV.is, Env.via, Option.map_eq_some_iff]
    constructor
    · rintro ⟨L, b, h1, h2, h3⟩
      exact ⟨_, b, ⟨L, h1, rfl⟩, h2, by rw [h3]; simp [Loc.shift, Nat.add_assoc]⟩
    · rintro ⟨_, b, ⟨L, h1, rfl⟩, h2, h3⟩
      exact ⟨L, b, h1, h2, by rw [h3]; simp [Loc.shift, Nat.add_assoc]⟩
  | .slc i o s len cap, x => by
    simp only [SV.ren, SV.is, Env.via, Option.map_eq_some_iff]
    constructor
    · rintro ⟨L, A, h1, h2, h3⟩
      exact ⟨_, A, ⟨L, h1, rfl⟩, by rw [h2]; simp [Loc.shift, Nat.sub_sub], by simpa [Loc.shift, Nat.add_assoc, Nat.sub_sub] using h3⟩
    · rintro ⟨_, A, ⟨L, h1, rfl⟩, h2, h3⟩
      exact ⟨L, A, h1, by rw [h2]; simp [Loc.shift, Nat.sub_sub], by simpa [Loc.shift, Nat.add_assoc, Nat.sub_sub] using h3⟩
  | .fn f as bs, x => by
    simp only [SV.ren, SV.is, SV.isL_ren as, SV.isL_ren bs]
  | .agg l, x => by simp only [SV.ren, SV.is, SV.isL_ren l]
  | .tup l, x => by simp only [SV.ren, SV.is, SV.isL_ren l]
theorem SV.isL_ren {ρ : Env} {η : Nat → Nat × Nat} : ∀ (l : List SV) (xs : List Value), SV.isL ρ (SV.renL η l) xs ↔ SV.isL (ρ.via η) l xs
  | [], xs => by simp [SV.renL, SV.isL]
  | a :: l, xs => by simp only [SV.renL, SV.isL, SV.is_ren a, SV.isL_ren l]
end

-- values that name no block
mutual
def SV.flat : SV → Bool
  | .ptr _ _ => false
  | .slc _ _ _ _ _ => false
  | .fn _ as bs => SV.flatL as && SV.flatL bs
  | .agg l => SV.flatL l
  | .tup l => SV.flatL l
  | _ => true
def SV.flatL : List SV → Bool
  | [] => true
  | a :: l => SV.flat a && SV.flatL l
end
mutual
theorem SV.flat_ren (η : Nat → Nat × Nat) : ∀ v : SV, v.flat = true → v.ren η = v
  | .any, _ => by simp [SV.ren]
  | .int _ _, _ => by simp [SV.ren]
  | .bool _, _ => by simp [SV.ren]
  | .str _, _ => by simp [SV.ren]
  | .gp _ _, _ => by simp [SV.ren]
  | .val _, _ => by simp [SV.ren]
  | .ptr _ _, h => by simp [SV.flat] at h
  | .slc _ _ _ _ _, h => by simp [SV.flat] at h
  | .fn f as bs, h => by
    simp only [SV.flat, Bool.and_eq_true] at h
    simp only [SV.ren, SV.flatL_ren η as h.1, SV.flatL_ren η bs h.2]
  | .agg l, h => by
    simp only [SV.flat] at h
    simp only [SV.ren, SV.flatL_ren η l h]
  | .tup l, h => by
    simp only [SV.flat] at h
    simp only [SV.ren, SV.flatL_ren η l h]
theorem SV.flatL_ren (η : Nat → Nat × Nat) : ∀ l : List SV, SV.flatL l = true → SV.renL η l = l
  | [], _ => by simp [SV.renL]
  | a :: l, h => by
    simp only [SV.flatL, Bool.and_eq_true] at h
    simp only [SV.renL, SV.flat_ren η a h.1, SV.flatL_ren η l h.2]
end
mutual
theorem SV.ren_id (η : Nat → Nat × Nat) (hη : ∀ i, η i = (i, 0)) : ∀ v : SV, v.ren η = v
  | .any => by simp [SV.ren]
  | .int _ _ => by simp [SV.ren]
  | .bool _ => by simp [SV.ren]
  | .str _ => by simp [SV.ren]
  | .gp _ _ => by simp [SV.ren]
  | .val _ => by simp [SV.ren]
  | .ptr _ _ => by simp [SV.ren, hη]
  | .slc _ _ _ _ _ => by simp [SV.ren, hη]
  | .fn f as bs => by simp only [SV.ren, SV.renL_id η hη as, SV.renL_id η hη bs]
  | .agg l => by simp only [SV.ren, SV.renL_id η hη l]
  | .tup l => by simp only [SV.ren, SV.renL_id η hη l]
theorem SV.renL_id (η : Nat → Nat × Nat) (hη : ∀ i, η i = (i, 0)) : ∀ l : List SV, SV.renL η l = l
  | [] => by simp [SV.renL]
  | a :: l => by simp only [SV.renL, SV.ren_id η hη a, SV.renL_id η hη l]
end
end Go.Sx
