/- The engine, part Zb: plain data, with slices of plain data in it, opened. -/
import Derived.Test.YtflkcganpgjkkaaDoorEngZa
import Derived.ChangeArms
namespace Go.Sx
open Go Go.WideShapes Go.ChangeShapes
set_option linter.unusedSimpArgs false
set_option linter.unusedVariables false

/-- what a cell of data holds: something plain, or a slice of rows of plain cells -/
inductive LK where
  | t (t : Tag)
  | sl (ks : List Tag)

def lkTags : List LK → Option (List Tag)
  | [] => some []
  | .t t :: r => match lkTags r with
    | some l => some (t :: l)
    | none => none
  | .sl _ :: _ => none

def lkFs (lay : TypeId → Option (List LK)) (P : Program) : List Field → Nat → Option (List LK)
  | [], _ => some []
  | f :: r, o => match lay f.type, lkFs lay P r (o + P.cellsOf f.type) with
    | some a, some b => if f.offset = o ∧ a.length = P.cellsOf f.type then some (a ++ b) else none
    | _, _ => none
def lkT (P : Program) : Nat → TypeId → Option (List LK)
  | 0, _ => none
  | d + 1, t => match P.underlying t with
    | some .bool => some [.t .b]
    | some (.int k) => some [.t (.i k)]
    | some .string => some [.t .s]
    | some (.slice e) => match lkT P d e with
      | some l => match lkTags l with
        | some ks => if ks.length = P.cellsOf e ∧ 0 < ks.length then some [.sl ks] else none
        | none => none
      | none => none
    | some (.struct fs) => match lkFs (lkT P d) P fs.toList 0 with
      | some l => if l.length = P.cellsOf t then some l else none
      | none => none
    | some (.array n e) => match lkT P d e with
      | some l => if l.length = P.cellsOf e ∧ n * l.length = P.cellsOf t then some (reps l n) else none
      | none => none
    | _ => none

def TagOk : Tag → Value → Prop
  | .i k, v => ∃ n, v = .int k n ∧ (Lit.int k n).wf = true
  | .b, v => ∃ b, v = .bool b
  | .s, v => ∃ s : List UInt8, v = .string ⟨s.toArray⟩ ∧ s.length ≤ maxLen

def LkOk (w : World) : LK → Value → Prop
  | .t t, v => TagOk t v
  | .sl ks, v => ∃ A len cap, v = .slice A len cap ∧ len ≤ cap ∧ cap ≤ maxLen ∧ 0 < ks.length ∧ (A = none → cap = 0) ∧
      (∀ a, A = some a → 0 < cap → a.spot = none ∧ a.block < w.heap.size) ∧
      ∀ a, A = some a → ∀ i, i < len → ∀ (j : Nat) k, ks[j]? = some k → ∃ x, w.cell? ⟨a.block, a.off + (i * ks.length + j), none⟩ = some x ∧ TagOk k x

inductive Lks (w : World) : List LK → List Value → Prop
  | nil : Lks w [] []
  | cons {k : LK} {v : Value} {ks : List LK} {vs : List Value} : LkOk w k v → Lks w ks vs → Lks w (k :: ks) (v :: vs)

theorem Lks.append {w : World} {a b : List LK} {x y : List Value} (h : Lks w a x) (h' : Lks w b y) : Lks w (a ++ b) (x ++ y) := by
  induction h with
  | nil => exact h'
  | cons hw _ ih => exact .cons hw ih

theorem Lks.tags {w : World} : ∀ {l : List LK} {cs : List Value} {ks : List Tag}, Lks w l cs → lkTags l = some ks → ∀ (j : Nat) k, ks[j]? = some k → ∃ x, cs[j]? = some x ∧ TagOk k x
  | _, _, ks, .nil, h, j, k, hk => by simp [lkTags] at h; subst h; simp at hk
  | .t t :: l, v :: vs, ks, .cons h1 h2, h, j, k, hk => by
    simp only [lkTags] at h
    split at h
    · rename_i q hq
      cases h
      cases j with
      | zero => simp at hk; subst hk; exact ⟨v, rfl, h1⟩
      | succ j => simpa using Lks.tags h2 hq j k (by simpa using hk)
    · cases h
  | .sl _ :: _, _ :: _, _, .cons _ _, h, _, _, _ => by simp [lkTags] at h

section
variable {H : Type} {enc : TypeId × Value → H} {P : Program} {w : World} {hd : Bool}

theorem fields_lks {lay : TypeId → Option (List LK)} {tr : TypeId → List Value → Option (DataW H × List MemPlace)}
    (ih : ∀ t cs ks x, lay t = some ks → tr t cs = some x → Lks w ks cs) :
    ∀ (fs : List Field) (o : Nat) (cs : List Value) (ks : List LK) (xs : List (DataW H × List MemPlace)), lkFs lay P fs o = some ks →
      fs.mapM (fun f => tr f.type ((cs.drop f.offset).take (P.cellsOf f.type))) = some xs → o + ks.length ≤ cs.length →
      Lks w ks ((cs.drop o).take ks.length)
  | [], o, cs, ks, xs, h, hx, _ => by
    simp [lkFs] at h; subst h
    simpa using Lks.nil
  | f :: r, o, cs, ks, xs, h, hx, hl => by
    simp only [lkFs] at h
    obtain ⟨y, ys, h1, h2, rfl⟩ := mapM_some_cons hx
    split at h
    · rename_i a b' ha hb
      split at h
      · rename_i hq
        cases h
        obtain ⟨q1, q2⟩ := hq
        simp only [List.length_append] at hl
        rw [q1] at h1
        have g1 := ih _ _ _ _ ha h1
        have g3 := fields_lks ih r _ cs _ ys hb h2 (by omega)
        have e : (cs.drop o).take (a ++ b').length = (cs.drop o).take (P.cellsOf f.type) ++ (cs.drop (o + P.cellsOf f.type)).take b'.length := by
          rw [List.length_append, q2, List.take_add, List.drop_drop]
        rw [e]
        exact g1.append g3
      · cases h
    · cases h

theorem array_lks {l : List LK} {g : List Value → Option (DataW H × List MemPlace)}
    (ih : ∀ cs x, g cs = some x → Lks w l cs) :
    ∀ (n o : Nat) (cs : List Value) (xs : List (DataW H × List MemPlace)),
      (List.range' o n).mapM (fun i => g ((cs.drop (i * l.length)).take l.length)) = some xs → (o + n) * l.length ≤ cs.length →
      Lks w (reps l n) ((cs.drop (o * l.length)).take (n * l.length))
  | 0, o, cs, xs, hx, _ => by simpa [reps] using Lks.nil
  | n + 1, o, cs, xs, hx, hl => by
    rw [List.range'_succ] at hx
    obtain ⟨y, ys, h1, h2, rfl⟩ := mapM_some_cons hx
    have g1 := ih _ _ h1
    have g3 := array_lks ih n (o + 1) cs ys h2 (by rw [show o + 1 + n = o + (n + 1) by omega]; exact hl)
    have e : (cs.drop (o * l.length)).take ((n + 1) * l.length) = (cs.drop (o * l.length)).take l.length ++ (cs.drop ((o + 1) * l.length)).take (n * l.length) := by
      rw [show (n + 1) * l.length = l.length + n * l.length by rw [Nat.add_mul]; omega, List.take_add, List.drop_drop, Nat.add_mul o 1, Nat.one_mul]
    rw [e]
    exact g1.append g3

theorem cells_get {base : Nat} {a : Addr} {n : Nat} {cs : List Value} (h : w.cells? base a n = some cs) : cs.length = n ∧ ∀ j, j < n → w.cell? (a.add j) = cs[j]? := by
  unfold World.cells? at h
  split at h
  · have key : ∀ (l : List Nat) (r : List Value), l.mapM (fun i => w.cell? (a.add i)) = some r → r.length = l.length ∧ ∀ (j : Nat) i, l[j]? = some i → w.cell? (a.add i) = r[j]? := by
      intro l
      induction l with
      | nil => intro r hr; simp at hr; subst hr; exact ⟨rfl, fun j i hj => by simp at hj⟩
      | cons i l ih =>
        intro r hr
        obtain ⟨y, ys, h1, h2, rfl⟩ := mapM_some_cons hr
        obtain ⟨e1, e2⟩ := ih _ h2
        refine ⟨by simp [e1], fun j i' hj => ?_⟩
        cases j with
        | zero => simp at hj; subst hj; simpa using h1
        | succ j => simpa using e2 j i' (by simpa using hj)
    obtain ⟨e1, e2⟩ := key _ _ h
    exact ⟨by simpa using e1, fun j hj => e2 j j (by simp [hj])⟩
  · cases h

theorem cell?_lt_any {a : Addr} {x : Value} (h : w.cell? a = some x) : a.block < w.heap.size := by
  unfold World.cell? at h
  rcases Nat.lt_or_ge a.block w.heap.size with h' | h'
  · exact h'
  · simp [Array.getElem?_eq_none h'] at h

theorem add_cell {a : Addr} {n : Nat} {x : Value} (h : w.cell? (a.add n) = some x) (hs : a.spot = none) : w.cell? ⟨a.block, a.off + n, none⟩ = some x := by
  unfold Addr.add at h
  split at h
  · rename_i e; subst e
    obtain ⟨b, o, s⟩ := a
    simp only at hs; subst hs; simpa using h
  · exact h

/-- PLAIN DATA, OPENED -/
theorem trod_lks : ∀ (fuel d : Nat) (t : TypeId) (cs : List Value) (ks : List LK) (x : DataW H × List MemPlace), lkT P d t = some ks →
    DataW.trod enc P w 0 (fun _ => true) hd fuel t cs = some x → Lks w ks cs
  | 0, d, t, cs, ks, x, _, hx => by simp [DataW.trod] at hx
  | fuel + 1, 0, t, cs, ks, x, h, _ => by simp [lkT] at h
  | fuel + 1, d + 1, t, cs, ks, x, h, hx => by
    simp only [lkT] at h
    split at h
    · rename_i hu
      cases h
      obtain ⟨n, rfl, rfl⟩ := DataW.trod_bool hu hx
      exact .cons ⟨n, rfl⟩ .nil
    · rename_i k hu
      cases h
      obtain ⟨n, rfl, rfl, hw⟩ := DataW.trod_int hu hx
      exact .cons ⟨n, rfl, hw⟩ .nil
    · rename_i hu
      cases h
      obtain ⟨n, rfl, rfl, hw⟩ := DataW.trod_string hu hx
      exact .cons ⟨n.data.toList, by simp, by simpa using hw⟩ .nil
    · rename_i e hu
      split at h
      · rename_i l hl
        split at h
        · rename_i tg htg
          split at h
          · rename_i hq
            cases h
            obtain ⟨q1, q2⟩ := hq
            rcases DataW.trod_slice hu hx with ⟨rfl, rfl⟩ | ⟨a, len, cap, elems, rest, n, hf, rfl, rfl, hb, hlc, hcm, hel, he, hr, _⟩
            · exact .cons ⟨none, 0, 0, rfl, Nat.le_refl _, by unfold maxLen; omega, q2, fun _ => rfl, fun a h => by simp at h, fun a h => by simp at h⟩ .nil
            · obtain rfl : fuel = n := by omega
              obtain ⟨hrl, hr⟩ := hr rfl
              have hfirst : 0 < cap → a.spot = none ∧ a.block < w.heap.size := by
                intro hc
                have : ∃ y, (w.cells? 0 (a.add 0) (P.cellsOf e)).bind (DataW.trod enc P w 0 (fun _ => true) hd fuel e) = some y := by
                  by_cases h0 : 0 < len
                  · have h1 := he 0 h0
                    rw [Nat.zero_mul] at h1
                    rw [h1, List.getElem?_eq_getElem (by omega)]; exact ⟨_, rfl⟩
                  · have h1 := hr 0 (by omega)
                    rw [show (len + 0) * P.cellsOf e = 0 by rw [show len + 0 = 0 by omega, Nat.zero_mul]] at h1
                    rw [h1, List.getElem?_eq_getElem (by omega)]; exact ⟨_, rfl⟩
                obtain ⟨y, hy⟩ := this
                obtain ⟨cs', hcs, _⟩ := Option.bind_eq_some_iff.1 hy
                obtain ⟨g1, g2⟩ := cells_get hcs
                have g3 := g2 0 (by omega)
                rw [List.getElem?_eq_getElem (by omega)] at g3
                have e0 : (a.add 0).add 0 = a := by simp [Addr.add]
                rw [e0] at g3
                exact ⟨World.cell?_spot g3, cell?_lt_any g3⟩
              refine .cons ⟨some a, len, cap, rfl, hlc, hcm, q2, fun h => (nomatch h), fun a' h => by cases h; exact hfirst, fun a' h i hi j k hk => ?_⟩ .nil
              cases h
              have hs := (hfirst (by omega)).1
              have h1 := he i hi
              rw [List.getElem?_eq_getElem (by omega)] at h1
              obtain ⟨cs', hcs, htr⟩ := Option.bind_eq_some_iff.1 h1
              obtain ⟨g1, g2⟩ := cells_get hcs
              have g3 := trod_lks fuel d e cs' l _ hl htr
              obtain ⟨x, hx1, hx2⟩ := g3.tags htg j k hk
              have hj : j < tg.length := by
                rcases Nat.lt_or_ge j tg.length with q | q
                · exact q
                · rw [List.getElem?_eq_none q] at hk; cases hk
              have g4 := g2 j (by omega)
              rw [hx1] at g4
              refine ⟨x, ?_, hx2⟩
              rw [q1]
              have hs' : (a.add (i * P.cellsOf e)).spot = none := by unfold Addr.add; split <;> simp [hs]
              have g5 := add_cell g4 hs'
              have : (⟨(a.add (i * P.cellsOf e)).block, (a.add (i * P.cellsOf e)).off + j, none⟩ : Addr) = ⟨a.block, a.off + (i * P.cellsOf e + j), none⟩ := by
                unfold Addr.add; split
                · rename_i e0; rw [e0]; simp
                · simp [Nat.add_assoc]
              rwa [this] at g5
          · cases h
        · cases h
      · cases h
    · rename_i fs hu
      split at h
      · rename_i l hl
        split at h
        · rename_i hlen
          cases h
          simp only [DataW.trod, hu] at hx
          split at hx
          · rename_i hcl
            obtain ⟨xs, hm, rfl⟩ := Option.map_eq_some_iff.1 hx
            have g1 := fields_lks (P := P) (lay := lkT P d) (tr := DataW.trod enc P w 0 (fun _ => true) hd fuel)
              (fun t cs ks x h1 h2 => trod_lks fuel d t cs ks x h1 h2) fs.toList 0 cs _ xs hl hm (by omega)
            rwa [List.drop_zero, List.take_of_length_le (by omega)] at g1
          · cases hx
        · cases h
      · cases h
    · rename_i n e hu
      split at h
      · rename_i l hl
        split at h
        · rename_i hq
          cases h
          obtain ⟨q1, q2⟩ := hq
          simp only [DataW.trod, hu] at hx
          split at hx
          · rename_i hcl
            obtain ⟨xs, hm, rfl⟩ := Option.map_eq_some_iff.1 hx
            rw [← q1, List.range_eq_range'] at hm
            have g1 := array_lks (l := l) (g := DataW.trod enc P w 0 (fun _ => true) hd fuel e) (fun cs x h1 => trod_lks fuel d e cs l x hl h1) n 0 cs xs hm (by rw [Nat.zero_add]; omega)
            rwa [Nat.zero_mul, List.drop_zero, List.take_of_length_le (by omega)] at g1
          · cases hx
        · cases h
      · cases h
    · cases h
end
end Go.Sx
