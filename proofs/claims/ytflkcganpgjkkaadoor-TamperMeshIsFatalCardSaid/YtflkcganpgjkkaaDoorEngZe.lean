/- The engine, part Ze: rows of plain cells, one by one; entering a loop. -/
import Derived.Test.YtflkcganpgjkkaaDoorEngZc
namespace Go.Sx
open Go
set_option linter.unusedSimpArgs false
set_option linter.unusedVariables false

theorem TagSV.flat {t : Tag} {v : SV} (h : TagSV t v) : v.flat = true := by
  cases t with
  | i k => obtain ⟨_, rfl, _⟩ := h; rfl
  | b => obtain ⟨_, rfl⟩ := h; rfl
  | s => obtain ⟨_, rfl, _⟩ := h; rfl
theorem TagsSV.flat : ∀ {ks : List Tag} {vs : List SV}, TagsSV ks vs → SV.flatL vs = true
  | [], vs, h => by simp only [TagsSV] at h; subst h; rfl
  | t :: ts, vs, h => by
    obtain ⟨v, r, rfl, h1, h2⟩ := h
    simp only [SV.flatL, h1.flat, TagsSV.flat h2, Bool.and_self]
theorem TagsSV.len : ∀ {ks : List Tag} {vs : List SV}, TagsSV ks vs → vs.length = ks.length
  | [], vs, h => by simp only [TagsSV] at h; subst h; rfl
  | t :: ts, vs, h => by
    obtain ⟨v, r, rfl, h1, h2⟩ := h
    simp [TagsSV.len h2]
theorem SV.flatL_append : ∀ {a b : List SV}, SV.flatL a = true → SV.flatL b = true → SV.flatL (a ++ b) = true
  | [], b, _, h => h
  | x :: a, b, h, h' => by
    simp only [SV.flatL, Bool.and_eq_true] at h
    simp only [List.cons_append, SV.flatL, h.1, SV.flatL_append h.2 h', Bool.and_self]
theorem RowsSV.flat {ks : List Tag} : ∀ {n : Nat} {vs : List SV}, RowsSV ks n vs → SV.flatL vs = true
  | 0, vs, h => by simp only [RowsSV] at h; subst h; rfl
  | n + 1, vs, h => by
    obtain ⟨r, cs, rfl, h1, h2⟩ := h
    exact SV.flatL_append h1.flat (RowsSV.flat h2)
theorem RowsSV.len {ks : List Tag} : ∀ {n : Nat} {vs : List SV}, RowsSV ks n vs → vs.length = n * ks.length
  | 0, vs, h => by simp only [RowsSV] at h; subst h; simp
  | n + 1, vs, h => by
    obtain ⟨r, cs, rfl, h1, h2⟩ := h
    simp [h1.len, RowsSV.len h2, Nat.add_mul, Nat.add_comm]
theorem RowsSV.ren {ks : List Tag} {n : Nat} {vs : List SV} (h : RowsSV ks n vs) (η : Nat → Nat × Nat) : SV.renL η vs = vs := SV.flatL_ren η vs h.flat
/-- a row by its index -/
theorem RowsSV.row {ks : List Tag} : ∀ {n : Nat} {vs : List SV} {i : Nat}, RowsSV ks n vs → i < n → ∃ r, TagsSV ks r ∧ (vs.drop (i * ks.length)).take ks.length = r
  | 0, vs, i, h, hi => by omega
  | n + 1, vs, i, h, hi => by
    obtain ⟨r, cs, rfl, h1, h2⟩ := h
    cases i with
    | zero => exact ⟨r, h1, by rw [Nat.zero_mul, List.drop_zero, ← h1.len, List.take_left']; rfl⟩
    | succ i =>
      obtain ⟨r', g1, g2⟩ := RowsSV.row h2 (i := i) (by omega)
      refine ⟨r', g1, ?_⟩
      rw [← g2, Nat.add_mul, Nat.one_mul, Nat.add_comm, ← List.drop_drop, ← h1.len, List.drop_left']; rfl
/-- cells out of a row -/
theorem take_take_of {vs r : List SV} {o s : Nat} (h : (vs.drop o).take s = r) {k : Nat} (hk : k ≤ s) : (vs.drop o).take k = r.take k := by
  rw [← h, List.take_take, Nat.min_eq_left hk]
theorem get_of_row {vs r : List SV} {o s : Nat} (h : (vs.drop o).take s = r) {k : Nat} (hk : k < s) : vs[o + k]? = r[k]? := by
  rw [← h, List.getElem?_take_of_lt hk, List.getElem?_drop]
end Go.Sx
