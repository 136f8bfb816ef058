/- The engine, part Za: plain data of integers, opened. -/
import Derived.Test.YtflkcganpgjkkaaDoorEngZ
namespace Go.Sx
open Go Go.WideShapes Go.ChangeShapes
set_option linter.unusedSimpArgs false
set_option linter.unusedVariables false

/-- the integers that lie one behind the other in a value of the type -/
def layFs (lay : TypeId → Option (List IntKind)) (P : Program) : List Field → Nat → Option (List IntKind)
  | [], _ => some []
  | f :: r, o => match lay f.type, layFs lay P r (o + P.cellsOf f.type) with
    | some a, some b => if f.offset = o ∧ a.length = P.cellsOf f.type then some (a ++ b) else none
    | _, _ => none
def reps {α : Type} (l : List α) : Nat → List α
  | 0 => []
  | k + 1 => l ++ reps l k
def layT (P : Program) : Nat → TypeId → Option (List IntKind)
  | 0, _ => none
  | d + 1, t => match P.underlying t with
    | some (.int k) => some [k]
    | some (.struct fs) => match layFs (layT P d) P fs.toList 0 with
      | some l => if l.length = P.cellsOf t then some l else none
      | none => none
    | some (.array n e) => match layT P d e with
      | some l => if l.length = P.cellsOf e ∧ n * l.length = P.cellsOf t then some (reps l n) else none
      | none => none
    | _ => none

inductive Ints : List IntKind → List Value → Prop
  | nil : Ints [] []
  | cons {k : IntKind} {n : Int} {ks : List IntKind} {vs : List Value} : (Lit.int k n).wf = true → Ints ks vs → Ints (k :: ks) (.int k n :: vs)

theorem Ints.append {a b : List IntKind} {x y : List Value} (h : Ints a x) (h' : Ints b y) : Ints (a ++ b) (x ++ y) := by
  induction h with
  | nil => exact h'
  | cons hw _ ih => exact .cons hw ih

section
variable {H : Type} {enc : TypeId × Value → H} {P : Program} {w : World} {b : Nat} {sp : Nat → Bool} {hd : Bool}

theorem mapM_some_cons {α β : Type} {f : α → Option β} {a : α} {l : List α} {r : List β} (h : (a :: l).mapM f = some r) : ∃ y ys, f a = some y ∧ l.mapM f = some ys ∧ r = y :: ys := by
  rw [List.mapM_cons] at h
  cases hf : f a with
  | none => simp [hf] at h
  | some y =>
    cases hl : l.mapM f with
    | none => simp [hf, hl] at h
    | some ys => simp [hf, hl] at h; exact ⟨y, ys, rfl, rfl, h.symm⟩

theorem fields_ints {lay : TypeId → Option (List IntKind)} {tr : TypeId → List Value → Option (DataW H × List MemPlace)}
    (ih : ∀ t cs ks x, lay t = some ks → tr t cs = some x → cs.length = P.cellsOf t → Ints ks cs ∧ x.2 = []) :
    ∀ (fs : List Field) (o : Nat) (cs : List Value) (ks : List IntKind) (xs : List (DataW H × List MemPlace)), layFs lay P fs o = some ks →
      fs.mapM (fun f => tr f.type ((cs.drop f.offset).take (P.cellsOf f.type))) = some xs → o + ks.length ≤ cs.length →
      Ints ks ((cs.drop o).take ks.length) ∧ xs.flatMap (·.2) = []
  | [], o, cs, ks, xs, h, hx, _ => by
    simp [layFs] at h; subst h
    simp at hx; subst hx
    exact ⟨by simpa using Ints.nil, rfl⟩
  | f :: r, o, cs, ks, xs, h, hx, hl => by
    simp only [layFs] at h
    obtain ⟨y, ys, h1, h2, rfl⟩ := mapM_some_cons hx
    split at h
    · rename_i a b' ha hb
      split at h
      · rename_i hq
        cases h
        obtain ⟨q1, q2⟩ := hq
        simp only [List.length_append] at hl
        rw [q1] at h1
        obtain ⟨g1, g2⟩ := ih _ _ _ _ ha h1 (by simp; omega)
        obtain ⟨g3, g4⟩ := fields_ints ih r _ cs _ ys hb h2 (by omega)
        refine ⟨?_, by simp [g2, g4]⟩
        have e : (cs.drop o).take (a ++ b').length = (cs.drop o).take (P.cellsOf f.type) ++ (cs.drop (o + P.cellsOf f.type)).take b'.length := by
          rw [List.length_append, q2, List.take_add, List.drop_drop]
        rw [e]
        exact g1.append g3
      · cases h
    · cases h

theorem array_ints {l : List IntKind} {g : List Value → Option (DataW H × List MemPlace)}
    (ih : ∀ cs x, g cs = some x → cs.length = l.length → Ints l cs ∧ x.2 = []) :
    ∀ (n o : Nat) (cs : List Value) (xs : List (DataW H × List MemPlace)),
      (List.range' o n).mapM (fun i => g ((cs.drop (i * l.length)).take l.length)) = some xs → (o + n) * l.length ≤ cs.length →
      Ints (reps l n) ((cs.drop (o * l.length)).take (n * l.length)) ∧ xs.flatMap (·.2) = []
  | 0, o, cs, xs, hx, _ => by
    simp at hx; subst hx
    exact ⟨by simpa [reps] using Ints.nil, rfl⟩
  | n + 1, o, cs, xs, hx, hl => by
    rw [List.range'_succ] at hx
    obtain ⟨y, ys, h1, h2, rfl⟩ := mapM_some_cons hx
    have hl1 : o * l.length + l.length ≤ cs.length := by
      have : (o + (n + 1)) * l.length = o * l.length + l.length + n * l.length := by rw [Nat.add_mul, Nat.add_mul]; omega
      omega
    obtain ⟨g1, g2⟩ := ih _ _ h1 (by simp; omega)
    obtain ⟨g3, g4⟩ := array_ints ih n (o + 1) cs ys h2 (by rw [show o + 1 + n = o + (n + 1) by omega]; exact hl)
    refine ⟨?_, by simp [g2, g4]⟩
    have e : (cs.drop (o * l.length)).take ((n + 1) * l.length) = (cs.drop (o * l.length)).take l.length ++ (cs.drop ((o + 1) * l.length)).take (n * l.length) := by
      rw [show (n + 1) * l.length = l.length + n * l.length by rw [Nat.add_mul]; omega, List.take_add, List.drop_drop, Nat.add_mul o 1, Nat.one_mul]
    rw [e]
    exact g1.append g3

/-- PLAIN DATA OF INTEGERS, OPENED -/
theorem trod_ints : ∀ (fuel d : Nat) (t : TypeId) (cs : List Value) (ks : List IntKind) (x : DataW H × List MemPlace), layT P d t = some ks →
    DataW.trod enc P w b sp hd fuel t cs = some x → Ints ks cs ∧ x.2 = []
  | 0, d, t, cs, ks, x, _, hx => by simp [DataW.trod] at hx
  | fuel + 1, 0, t, cs, ks, x, h, _ => by simp [layT] at h
  | fuel + 1, d + 1, t, cs, ks, x, h, hx => by
    simp only [layT] at h
    split at h
    · rename_i k hu
      cases h
      obtain ⟨n, rfl, rfl, hw⟩ := DataW.trod_int hu hx
      exact ⟨.cons hw .nil, rfl⟩
    · rename_i fs hu
      split at h
      · rename_i l hl
        split at h
        · rename_i hlen
          cases h
          simp only [DataW.trod, hu] at hx
          split at hx
          · rename_i hcl
            obtain ⟨xs, hm, rfl⟩ := Option.map_eq_some_iff.1 hx
            obtain ⟨g1, g2⟩ := fields_ints (P := P) (lay := layT P d) (tr := DataW.trod enc P w b sp hd fuel)
              (fun t cs ks x h1 h2 _ => trod_ints fuel d t cs ks x h1 h2) fs.toList 0 cs _ xs hl hm (by omega)
            rw [List.drop_zero, List.take_of_length_le (by omega)] at g1
            exact ⟨g1, g2⟩
          · cases hx
        · cases h
      · cases h
    · rename_i n e hu
      split at h
      · rename_i l hl
        split at h
        · rename_i hq
          cases h
          obtain ⟨q1, q2⟩ := hq
          simp only [DataW.trod, hu] at hx
          split at hx
          · rename_i hcl
            obtain ⟨xs, hm, rfl⟩ := Option.map_eq_some_iff.1 hx
            rw [← q1, List.range_eq_range'] at hm
            obtain ⟨g1, g2⟩ := array_ints (l := l) (g := DataW.trod enc P w b sp hd fuel e) (fun cs x h1 _ => trod_ints fuel d e cs l x hl h1) n 0 cs xs hm (by rw [Nat.zero_add]; omega)
            rw [Nat.zero_mul, List.drop_zero, List.take_of_length_le (by omega)] at g1
            exact ⟨g1, g2⟩
          · cases hx
        · cases h
      · cases h
    · cases h
end
end Go.Sx
