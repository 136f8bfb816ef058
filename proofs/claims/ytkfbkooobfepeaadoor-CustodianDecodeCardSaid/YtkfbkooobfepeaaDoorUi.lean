/- The proof, part Ui: the texts LawK, LawM. -/
import Derived.Test.YtkfbkooobfepeaaDoorUh
import Derived.Test.YtkfbkooobfepeaaDoorCards
import Derived.Test.YtkfbkooobfepeaaDoorTie
import Derived.RowKit
import Derived.ProofKit
import Derived.Deep.DeepHandedRow
/- What the laws of layer 30 need of the seat: the tables, a world for the witness. -/
namespace Go.Proofs.YtkfbkooobfepeaaDoor
open Go Go.Sx Go.ChangeShapes Go.WideShapes
set_option maxRecDepth 100000
set_option linter.unusedSimpArgs false
set_option linter.unusedVariables false
theorem own : ownKnob Tryd.prog.godebug = none := by kernel_rfl
def nHash : String := (Rows.custodianStatementsRow.laid.map (·.1)).headD default
theorem gHash : Tryd.prog.globalNamed nHash = some 0 := by kernel_rfl
theorem gHashType : (Tryd.prog.globals[0]?).map (·.type) = some 121 := by kernel_rfl
theorem flatHash : flatT Tryd.prog 5 121 = some 64 := by kernel_rfl
theorem litsHash : (litsOf (H := Unit) Rows.laid_custody_hash_constants).length = 64 := by rfl
theorem convHash : (litsOf (H := Unit) Rows.laid_custody_hash_constants).map convV = kc.map u32 := by rfl
theorem table {W : World} (h : laidMet Tryd.prog Rows.custodianStatementsRow.laid W) : TabOk tH W := by
  obtain ⟨ps, h, _⟩ := h
  intro g cs hm
  simp only [tH, List.mem_cons, List.not_mem_nil, or_false] at hm
  cases hm
  rw [← convHash]
  exact tab_of_laid h (name := nHash) List.mem_cons_self gHash gHashType flatHash litsHash (by decide)
theorem table0 {W : World} (h : laidMet Tryd.prog Rows.custodianStatementsRow.laid W) : 0 < W.heap.size :=
  (table h 0 _ List.mem_cons_self).1
theorem boolT : Tryd.prog.underlying 4 = some .bool := by kernel_rfl
theorem u8_range {n : Int} (h : (Lit.int .u8 n).wf = true) : 0 ≤ n ∧ n < 256 := by
  simp [Lit.wf, IntKind.min, IntKind.max, IntKind.signed, IntKind.bits] at h; omega
theorem i64_range {n : Int} (h : (Lit.int .i64 n).wf = true) : R64 n := by
  simp [Lit.wf, IntKind.min, IntKind.max, IntKind.signed, IntKind.bits] at h
  unfold R64; omega

noncomputable def laidWorld (os : Os) : World :=
  { World.holding Tryd.prog os ⟨#[], #[], []⟩ with heap := (World.holding Tryd.prog os ⟨#[], #[], []⟩).heap.modify 0 fun
      | .cells _ t frozen => .cells (litsOf (H := Unit) Rows.laid_custody_hash_constants).toArray t frozen
      | o => o }

end Go.Proofs.YtkfbkooobfepeaaDoor

/- Members among the arguments of a law. -/
namespace Go.Proofs.YtkfbkooobfepeaaDoor
open Go Go.Sx Sf
set_option maxRecDepth 100000
set_option linter.unusedSimpArgs false
set_option linter.unusedVariables false
def Good (l : List Mb) : Prop := ∀ m ∈ l, m.pub.length = 16 ∧ R64 m.h ∧ m.name.length ≤ 9223372036854775807
theorem Good.pub {l : List Mb} (h : Good l) : Pub l := fun m hm => (h m hm).1
def tgM : List Tag := .s :: (List.replicate 16 (.i .u8) ++ [.i .i64])
theorem tags_u8s {ks : List Tag} : ∀ (k : Nat) {vs : List SV}, TagsSV (List.replicate k (.i .u8) ++ ks) vs → ∃ (d : List UInt8) (vs' : List SV), d.length = k ∧ vs = bys d ++ vs' ∧ TagsSV ks vs'
  | 0, vs, h => ⟨[], vs, rfl, rfl, h⟩
  | k + 1, vs, h => by
    rw [List.replicate_succ, List.cons_append] at h
    simp only [TagsSV, TagSV] at h
    obtain ⟨v, r, rfl, ⟨x, rfl, hx⟩, h⟩ := h
    obtain ⟨d, vs', h1, rfl, h2⟩ := tags_u8s k h
    refine ⟨UInt8.ofNat x.toNat :: d, vs', by simp [h1], ?_, h2⟩
    rw [u8_byte (u8_range hx)]
    rfl
theorem rows_mcs : ∀ (len : Nat) {cells : List SV}, RowsSV tgM len cells → ∃ l, l.length = len ∧ cells = mcs l ∧ Good l
  | 0, cells, h => ⟨[], rfl, h, by simp [Good]⟩
  | len + 1, cells, h => by
    obtain ⟨r, cs', rfl, hr, h⟩ := h
    obtain ⟨l, h1, rfl, h2⟩ := rows_mcs len h
    unfold tgM at hr
    simp only [TagsSV, TagSV] at hr
    obtain ⟨_, r1, q0, ⟨s, q1, hs⟩, hr1⟩ := hr
    obtain ⟨p, vs', hp, q2, hr2⟩ := tags_u8s 16 hr1
    simp only [TagsSV, TagSV] at hr2
    obtain ⟨_, r2, q3, ⟨x, q4, hx⟩, q5⟩ := hr2
    subst q5; subst q4; subst q3; subst q2; subst q1; subst q0
    refine ⟨⟨s, p, x⟩ :: l, by simp [h1], rfl, ?_⟩
    intro m hm
    rcases List.mem_cons.1 hm with rfl | hm
    · exact ⟨hp, i64_range hx, by unfold maxLen at hs; exact hs⟩
    · exact h2 m hm
end Go.Proofs.YtkfbkooobfepeaaDoor
