/- The engine, part Zd: tables: listed variables whose content a row gives. -/
import Derived.Test.YtflkcganpgjkkaaDoorEngZc
import Derived.Lib.LaidTab
namespace Go.Sx
open Go Go.WideShapes Go.ChangeShapes
set_option linter.unusedSimpArgs false
set_option linter.unusedVariables false

mutual
/-- the cells that a plain datum lays -/
def litsOf {H : Type} : DataW H → List Value
  | .lit (.int k n) => [.int k n]
  | .lit (.bool b) => [.bool b]
  | .lit (.string s) => [.string ⟨s.toArray⟩]
  | .agg parts => litsOfL parts
  | _ => []
def litsOfL {H : Type} : List (DataW H) → List Value
  | [] => []
  | d :: r => litsOf d ++ litsOfL r
end

def flatFs (fl : TypeId → Option Nat) (P : Program) : List Field → Nat → Option Nat
  | [], o => some o
  | f :: r, o => match fl f.type with
    | some a => if f.offset = o ∧ a = P.cellsOf f.type then flatFs fl P r (o + a) else none
    | none => none
/-- how many cells a type has that is made of plain cells -/
def flatT (P : Program) : Nat → TypeId → Option Nat
  | 0, _ => none
  | d + 1, t => match P.underlying t with
    | some .bool | some (.int _) | some .string => some 1
    | some (.struct fs) => match flatFs (flatT P d) P fs.toList 0 with
      | some n => if n = P.cellsOf t then some n else none
      | none => none
    | some (.array n e) => match flatT P d e with
      | some a => if a = P.cellsOf e ∧ n * a = P.cellsOf t then some (n * a) else none
      | none => none
    | _ => none

section
variable {H : Type} {enc : TypeId × Value → H} {P : Program} {w : World} {sp : Nat → Bool} {hd : Bool} {b : Nat}

theorem fields_lits {fl : TypeId → Option Nat} {tr : TypeId → List Value → Option (DataW H × List MemPlace)}
    (ih : ∀ t cs a x, fl t = some a → tr t cs = some x → cs.length = a → cs = litsOf x.1) :
    ∀ (fs : List Field) (o : Nat) (cs : List Value) (n : Nat) (xs : List (DataW H × List MemPlace)), flatFs fl P fs o = some n →
      fs.mapM (fun f => tr f.type ((cs.drop f.offset).take (P.cellsOf f.type))) = some xs → n ≤ cs.length → o ≤ n ∧
      (cs.drop o).take (n - o) = litsOfL (xs.map (·.1))
  | [], o, cs, n, xs, h, hx, _ => by
    simp [flatFs] at h; subst h
    simp at hx; subst hx
    simp [litsOfL]
  | f :: r, o, cs, n, xs, h, hx, hl => by
    simp only [flatFs] at h
    obtain ⟨y, ys, h1, h2, rfl⟩ := mapM_some_cons hx
    split at h
    · rename_i a ha
      split at h
      · rename_i hq
        obtain ⟨q1, q2⟩ := hq
        obtain ⟨g0, g3⟩ := fields_lits ih r _ cs _ ys h h2 hl
        rw [q1, ← q2] at h1
        have g1 := ih _ _ _ _ ha h1 (by simp; omega)
        refine ⟨by omega, ?_⟩
        simp only [List.map_cons, litsOfL]
        rw [← g1, ← g3]
        have : n - o = a + (n - (o + a)) := by omega
        rw [this, List.take_add, List.drop_drop]
      · cases h
    · cases h

theorem array_lits {a : Nat} {g : List Value → Option (DataW H × List MemPlace)}
    (ih : ∀ cs x, g cs = some x → cs.length = a → cs = litsOf x.1) :
    ∀ (n o : Nat) (cs : List Value) (xs : List (DataW H × List MemPlace)),
      (List.range' o n).mapM (fun i => g ((cs.drop (i * a)).take a)) = some xs → (o + n) * a ≤ cs.length →
      (cs.drop (o * a)).take (n * a) = litsOfL (xs.map (·.1))
  | 0, o, cs, xs, hx, _ => by simp at hx; subst hx; simp [litsOfL]
  | n + 1, o, cs, xs, hx, hl => by
    rw [List.range'_succ] at hx
    obtain ⟨y, ys, h1, h2, rfl⟩ := mapM_some_cons hx
    have hl1 : o * a + a ≤ cs.length := by
      have : (o + (n + 1)) * a = o * a + a + n * a := by rw [Nat.add_mul, Nat.add_mul]; omega
      omega
    have g1 := ih _ _ h1 (by simp; omega)
    have g3 := array_lits ih n (o + 1) cs ys h2 (by rw [show o + 1 + n = o + (n + 1) by omega]; exact hl)
    simp only [List.map_cons, litsOfL]
    rw [← g1, ← g3, show (n + 1) * a = a + n * a by rw [Nat.add_mul]; omega, List.take_add, List.drop_drop, Nat.add_mul o 1, Nat.one_mul]

theorem trod_lits : ∀ (fuel d : Nat) (t : TypeId) (cs : List Value) (a : Nat) (x : DataW H × List MemPlace), flatT P d t = some a →
    DataW.trod enc P w b sp hd fuel t cs = some x → cs.length = a → cs = litsOf x.1
  | 0, d, t, cs, a, x, _, hx, _ => by simp [DataW.trod] at hx
  | fuel + 1, 0, t, cs, a, x, h, _, _ => by simp [flatT] at h
  | fuel + 1, d + 1, t, cs, a, x, h, hx, hlen => by
    simp only [flatT] at h
    split at h
    · rename_i hu; obtain ⟨n, rfl, rfl⟩ := DataW.trod_bool hu hx; rfl
    · rename_i hu; obtain ⟨n, rfl, rfl, hw⟩ := DataW.trod_int hu hx; rfl
    · rename_i hu; obtain ⟨n, rfl, rfl, hw⟩ := DataW.trod_string hu hx; simp [litsOf]
    · rename_i fs hu
      split at h
      · rename_i n hn
        split at h
        · rename_i hc
          cases h
          simp only [DataW.trod, hu] at hx
          split at hx
          · obtain ⟨xs, hm, rfl⟩ := Option.map_eq_some_iff.1 hx
            obtain ⟨_, g⟩ := fields_lits (P := P) (fl := flatT P d) (tr := DataW.trod enc P w b sp hd fuel)
              (fun t cs a x h1 h2 h3 => trod_lits fuel d t cs a x h1 h2 h3) fs.toList 0 cs _ xs hn hm (by omega)
            simp only [List.drop_zero, Nat.sub_zero] at g
            rw [List.take_of_length_le (by omega)] at g
            simpa [litsOf] using g
          · cases hx
        · cases h
      · cases h
    · rename_i n e hu
      split at h
      · rename_i a' ha
        split at h
        · rename_i hq
          cases h
          obtain ⟨q1, q2⟩ := hq
          simp only [DataW.trod, hu] at hx
          split at hx
          · obtain ⟨xs, hm, rfl⟩ := Option.map_eq_some_iff.1 hx
            rw [← q1, List.range_eq_range'] at hm
            have g := array_lits (a := a') (g := DataW.trod enc P w b sp hd fuel e) (fun cs x h1 h3 => trod_lits fuel d e cs a' x ha h1 h3) n 0 cs xs hm (by rw [Nat.zero_add]; omega)
            rw [Nat.zero_mul, List.drop_zero, List.take_of_length_le (by omega)] at g
            simpa [litsOf] using g
          · cases hx
        · cases h
      · cases h
    · cases h

theorem trod_len {fuel d : Nat} {t : TypeId} {cs : List Value} {a : Nat} {x : DataW H × List MemPlace} (h : flatT P d t = some a) (hx : DataW.trod enc P w b sp hd fuel t cs = some x) : cs.length = a := by
  cases fuel with
  | zero => simp [DataW.trod] at hx
  | succ fuel =>
  cases d with
  | zero => simp [flatT] at h
  | succ d =>
    simp only [flatT] at h
    split at h
    · rename_i hu; cases h; obtain ⟨n, rfl, rfl⟩ := DataW.trod_bool hu hx; rfl
    · rename_i hu; cases h; obtain ⟨n, rfl, rfl, hw⟩ := DataW.trod_int hu hx; rfl
    · rename_i hu; cases h; obtain ⟨n, rfl, rfl, hw⟩ := DataW.trod_string hu hx; rfl
    · rename_i fs hu
      split at h
      · split at h
        · rename_i hc
          cases h
          simp only [DataW.trod, hu] at hx
          split at hx
          · omega
          · cases hx
        · cases h
      · cases h
    · rename_i n e hu
      split at h
      · split at h
        · rename_i hq
          cases h
          simp only [DataW.trod, hu] at hx
          split at hx
          · omega
          · cases hx
        · cases h
      · cases h
    · cases h
end

def convV : Value → SV
  | .int k n => .int k n
  | .bool b => .bool b
  | .string s => .str s.data.toList
  | v => .val v
theorem convV_is (ρ : Env) (v : Value) : (convV v).is ρ v := by
  unfold convV
  split <;> simp [SV.is]

mutual
theorem litsOf_one {H : Type} : ∀ (d : DataW H), ∀ v ∈ litsOf d, v.oneCell' = true
  | .lit (.int k n), v, h => by simp [litsOf] at h; subst h; rfl
  | .lit (.bool b), v, h => by simp [litsOf] at h; subst h; rfl
  | .lit (.string s), v, h => by simp [litsOf] at h; subst h; rfl
  | .lit (.float k b), v, h => by simp [litsOf] at h
  | .agg parts, v, h => litsOfL_one parts v (by simpa [litsOf] using h)
  | .nil, v, h => by simp [litsOf] at h
  | .ptr _, v, h => by simp [litsOf] at h
  | .slice _ _, v, h => by simp [litsOf] at h
  | .iface _ _, v, h => by simp [litsOf] at h
  | .map _, v, h => by simp [litsOf] at h
  | .held _, v, h => by simp [litsOf] at h
theorem litsOfL_one {H : Type} : ∀ (l : List (DataW H)), ∀ v ∈ litsOfL l, v.oneCell' = true
  | [], v, h => by simp [litsOfL] at h
  | d :: r, v, h => by
    simp only [litsOfL, List.mem_append] at h
    rcases h with h | h
    · exact litsOf_one d v h
    · exact litsOfL_one r v h
end

/-- a listed variable of plain cells, as a table of the engine -/
theorem tab_of_laid {P : Program} {W : World} {laid : List (String × DataW Unit)} {ps : List MemPlace} (h : DataW.LaidVars P W laid ps) {name : String} {x : DataW Unit} (hm : (name, x) ∈ laid)
    {g : Nat} {t : TypeId} {d a : Nat} (hg : P.globalNamed name = some g) (hty : (P.globals[g]?).map (·.type) = some t) (hf : flatT P d t = some a) (ha : (litsOf x).length = a) (hpos : 0 < a) :
    g < W.heap.size ∧ ∀ (j : Nat) v, ((litsOf x).map convV)[j]? = some v → ∃ y, W.cell? ⟨g, j, none⟩ = some y ∧ v.is (fun _ => none) y ∧ y.oneCell' = true := by
  induction laid generalizing ps with
  | nil => simp at hm
  | cons y r ih =>
    obtain ⟨n0, d0⟩ := y
    obtain ⟨g', t', cs, fuel, p, q, hg', ht', hvar, hd, hr, _⟩ := h
    rcases List.mem_cons.1 hm with e | hm
    · cases e
      obtain rfl := Option.some.inj (hg.symm.trans hg')
      obtain rfl := Option.some.inj (hty.symm.trans ht')
      have hcs := trod_lits fuel d t cs.toList a _ hf hd (trod_len hf hd)
      have hcell : ∀ j, W.cell? ⟨g, j, none⟩ = (litsOf x)[j]? := fun j => by
        have := World.var?_cell hg hvar j
        rw [this, ← hcs]; simp
      refine ⟨?_, fun j v hj => ?_⟩
      · have h0 := hcell 0
        rw [List.getElem?_eq_getElem (by omega)] at h0
        exact cell?_lt h0
      · rw [List.getElem?_map] at hj
        obtain ⟨y, hy, rfl⟩ := Option.map_eq_some_iff.1 hj
        exact ⟨y, by rw [hcell j, hy], convV_is _ _, litsOf_one x y (List.mem_of_getElem? hy)⟩
    · exact ih hr hm
end Go.Sx
