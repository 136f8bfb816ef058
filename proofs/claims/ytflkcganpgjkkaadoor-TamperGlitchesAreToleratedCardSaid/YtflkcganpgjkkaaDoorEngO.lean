/- The engine, part O: an operation has one outcome; the trace of a region whose order is open. -/
import Derived.Test.YtflkcganpgjkkaaDoorEngN
namespace Go.Sx
open Go
set_option linter.unusedSimpArgs false
set_option linter.unusedVariables false

def PointC (call : CallT) : Prop := ∀ f args m n K, call f args m n K → ∃ v m' n', K v m' n' ∧ ∀ K' : Kt, K' v m' n' → call f args m n K'

theorem callT_point (P : Program) (T : List (Nat × List SV)) : PointC (callT P T) := by
  intro f args m n K h
  obtain ⟨hs, args0, m0, r0, m1, n1, F, h1, h2, h3, h4, h5, h6, hK⟩ := h
  exact ⟨_, _, _, hK, fun K' k => ⟨hs, args0, m0, r0, m1, n1, F, h1, h2, h3, h4, h5, h6, k⟩⟩

theorem fillS_point {fr : Fr} : ∀ (cs : List SV) (ps : List (Nat × Nat × Opd)) (F : List SV → Prop), fillS fr cs ps F → ∃ r, F r ∧ fillS fr cs ps (fun x => x = r)
  | cs, [], F, h => ⟨cs, h, rfl⟩
  | cs, (off, size, x) :: r, F, h => by
    simp only [fillS] at h
    obtain ⟨l, h1, h2, h3, h4⟩ := h
    obtain ⟨q, h5, h6⟩ := fillS_point _ r F h4
    exact ⟨q, h5, by simp only [fillS]; exact ⟨l, h1, h2, h3, h6⟩⟩

theorem fillS_mono {fr : Fr} {F G : List SV → Prop} (hFG : ∀ x, F x → G x) : ∀ (cs : List SV) (ps : List (Nat × Nat × Opd)), fillS fr cs ps F → fillS fr cs ps G
  | cs, [], h => hFG cs h
  | cs, (off, size, x) :: r, h => by
    simp only [fillS] at h ⊢
    obtain ⟨l, h1, h2, h3, h4⟩ := h
    exact ⟨l, h1, h2, h3, fillS_mono hFG _ r h4⟩

theorem binI_point {op : BinOp} {k k' : IntKind} {a b : Int} {F : SV → Prop} (h : binI op k k' a b F) : ∃ v, F v ∧ ∀ G : SV → Prop, G v → binI op k k' a b G := by
  unfold binI at h ⊢
  cases op <;> simp only at h ⊢
  case quo => exact ⟨_, h.2.2, fun G g => ⟨h.1, h.2.1, g⟩⟩
  case rem => exact ⟨_, h.2.2, fun G g => ⟨h.1, h.2.1, g⟩⟩
  all_goals exact ⟨_, h.2, fun G g => ⟨h.1, g⟩⟩
theorem binS_point {op : BinOp} {a b : List UInt8} {F : SV → Prop} (h : binS op a b F) : ∃ v, F v ∧ ∀ G : SV → Prop, G v → binS op a b G := by
  unfold binS at h ⊢
  cases op <;> simp only at h ⊢
  case add => exact ⟨_, h.2, fun G g => ⟨h.1, g⟩⟩
  all_goals first | exact h.elim | exact ⟨_, h, fun G g => g⟩
theorem binV_point {op : BinOp} {x y : SV} {F : SV → Prop} (h : binV op x y F) : ∃ v, F v ∧ ∀ G : SV → Prop, G v → binV op x y G := by
  unfold binV at h ⊢
  split at h
  · exact binI_point h
  · exact binS_point h
  · exact h.elim

theorem onInt_point {α : Type} {v : SV} {F : Int → Prop} (h : onInt v F) : ∃ i, F i ∧ ∀ G : Int → Prop, G i → onInt v G := by
  unfold onInt at h ⊢
  split at h
  · exact ⟨_, h, fun G g => g⟩
  · exact h.elim
theorem onInt_pt {v : SV} {F : Int → Prop} (h : onInt v F) : ∃ i, F i ∧ ∀ G : Int → Prop, G i → onInt v G := onInt_point (α := Unit) h
theorem onBool_pt {v : SV} {F : Bool → Prop} (h : onBool v F) : ∃ i, F i ∧ ∀ G : Bool → Prop, G i → onBool v G := by
  unfold onBool at h ⊢
  split at h
  · exact ⟨_, h, fun G g => g⟩
  · exact h.elim
theorem onOpt_pt {fr : Fr} {x : Option Opd} {d : Int} {F : Int → Prop} (h : onOpt fr x d F) : ∃ i, F i ∧ ∀ G : Int → Prop, G i → onOpt fr x d G := by
  unfold onOpt at h ⊢
  cases x with
  | none => exact ⟨d, h, fun G g => g⟩
  | some o => exact onInt_pt h
theorem srcSl_pt {m : Mem} {s : Nat} {v : SV} {F : Nat → List SV → Prop} (h : srcSl m s v F) : ∃ k l, F k l ∧ ∀ G : Nat → List SV → Prop, G k l → srcSl m s v G := by
  unfold srcSl at h ⊢
  split at h
  · obtain ⟨h1, B, h2, h3, h4⟩ := h
    exact ⟨_, _, h4, fun G g => ⟨h1, B, h2, h3, g⟩⟩
  · exact ⟨_, _, h, fun G g => g⟩
  · exact h.elim
theorem srcOf_pt {m : Mem} {s : Nat} {v : SV} {F : Nat → List SV → Prop} (h : srcOf m s v F) : ∃ k l, F k l ∧ ∀ G : Nat → List SV → Prop, G k l → srcOf m s v G := by
  unfold srcOf at h ⊢
  split at h
  · exact ⟨_, _, h.2, fun G g => ⟨h.1, g⟩⟩
  · exact srcSl_pt h

/-- AN OPERATION HAS ONE OUTCOME -/
theorem exO_point {T : List (Nat × List SV)} {call : CallT} (hc : PointC call) {fr : Fr} {m : Mem} {n : Nat} {K : Kt} {s : SOp} (h : exO T call fr m n K s) :
    ∃ v m' n', K v m' n' ∧ ∀ K' : Kt, K' v m' n' → exO T call fr m n K' s := by
  cases s <;> simp only [exO] at h ⊢
  case mv => exact ⟨_, _, _, h, fun K' k => k⟩
  case pick =>
    obtain ⟨b, h1, h2⟩ := onBool_pt h
    cases b
    · exact ⟨_, _, _, h1.2 rfl, fun K' k => h2 _ ⟨(fun h => by cases h), fun _ => k⟩⟩
    · exact ⟨_, _, _, h1.1 rfl, fun K' k => h2 _ ⟨fun _ => k, (fun h => by cases h)⟩⟩
  case new => exact ⟨_, _, _, h, fun K' k => k⟩
  case box =>
    obtain ⟨l, h1, h2⟩ := h
    exact ⟨_, _, _, h2, fun K' k => ⟨l, h1, k⟩⟩
  case build z ps =>
    obtain ⟨r, h1, h2⟩ := fillS_point _ _ _ h
    exact ⟨_, _, _, h1, fun K' k => fillS_mono (fun x hx => by subst hx; exact k) _ _ h2⟩
  case bslice e sz k z ps =>
    obtain ⟨r, h1, h2⟩ := fillS_point _ _ _ h
    exact ⟨_, _, _, h1, fun K' k => fillS_mono (fun x hx => by subst hx; exact k) _ _ h2⟩
  case load g x =>
    split at h
    · obtain ⟨B, h1, h2⟩ := h
      cases g with
      | none => obtain ⟨v, h3, h4⟩ := h2; exact ⟨_, _, _, h4, fun K' k => ⟨B, h1, v, h3, k⟩⟩
      | some k => exact ⟨_, _, _, h2.2, fun K' k => ⟨B, h1, h2.1, k⟩⟩
    · obtain ⟨cs, h1, h2⟩ := h
      cases g with
      | none => obtain ⟨v, h3, h4⟩ := h2; exact ⟨_, _, _, h4, fun K' k => ⟨cs, h1, v, h3, k⟩⟩
      | some k => exact ⟨_, _, _, h2.2, fun K' k => ⟨cs, h1, h2.1, k⟩⟩
    · exact h.elim
  case store =>
    split at h
    · obtain ⟨B, e, l, h1, h2, h3, h4, h5, h6⟩ := h
      exact ⟨_, _, _, h6, fun K' k => ⟨B, e, l, h1, h2, h3, h4, h5, k⟩⟩
    · exact h.elim
  case nilc => split at h <;> first | exact h.elim | exact ⟨_, _, _, h, fun K' k => k⟩
  case fld => split at h <;> first | exact h.elim | exact ⟨_, _, _, h, fun K' k => k⟩
  case idxA =>
    obtain ⟨i, ⟨h1, h2, h3⟩, hG⟩ := onInt_pt h
    split at h3
    · rename_i he; simp only [he] at *; exact ⟨_, _, _, h3, fun K' k => hG _ ⟨h1, h2, k⟩⟩
    · rename_i he; simp only [he] at *; exact ⟨_, _, _, h3, fun K' k => hG _ ⟨h1, h2, k⟩⟩
    · exact h3.elim
  case idxS =>
    obtain ⟨i, h3, hG⟩ := onInt_pt h
    split at h3
    · rename_i he; simp only [he] at *
      obtain ⟨h1, h2, h4, B, h5, h6, h7⟩ := h3
      exact ⟨_, _, _, h7, fun K' k => hG _ ⟨h1, h2, h4, B, h5, h6, k⟩⟩
    · exact h3.elim
  case idxV x i len s agg =>
    obtain ⟨i, ⟨h1, h2, h3⟩, hG⟩ := onInt_pt h
    split at h3
    · rename_i he; simp only [he] at *
      cases agg
      · obtain ⟨v, h4, h5⟩ := h3; exact ⟨_, _, _, h5, fun K' k => hG _ ⟨h1, h2, v, h4, k⟩⟩
      · exact ⟨_, _, _, h3, fun K' k => hG _ ⟨h1, h2, k⟩⟩
    · exact h3.elim
  case idxT =>
    obtain ⟨i, ⟨h1, h3⟩, hG⟩ := onInt_pt h
    split at h3
    · rename_i he; simp only [he] at *
      obtain ⟨c, h4, h5⟩ := h3
      exact ⟨_, _, _, h5, fun K' k => hG _ ⟨h1, c, h4, k⟩⟩
    · exact h3.elim
  case fieldV x off agg =>
    split at h
    · cases agg with
      | none => obtain ⟨v, h4, h5⟩ := h; exact ⟨_, _, _, h5, fun K' k => ⟨v, h4, k⟩⟩
      | some k => exact ⟨_, _, _, h, fun K' k => k⟩
    · exact h.elim
  case bin op x y =>
    obtain ⟨v, h1, h2⟩ := binV_point h
    exact ⟨_, _, _, h1, fun K' k => h2 _ k⟩
  case eqv =>
    split at h
    · obtain ⟨b, h1, h2⟩ := h; exact ⟨_, _, _, h2, fun K' k => ⟨b, h1, k⟩⟩
    · exact h.elim
  case eqb => split at h <;> first | exact h.elim | exact ⟨_, _, _, h, fun K' k => k⟩
  case isNil =>
    split at h
    · exact ⟨_, _, _, h, fun K' k => k⟩
    · exact ⟨_, _, _, h.2, fun K' k => ⟨h.1, k⟩⟩
    · exact h.elim
  case un => split at h <;> first | exact h.elim | exact ⟨_, _, _, h, fun K' k => k⟩
  case conv => split at h <;> first | exact h.elim | exact ⟨_, _, _, h, fun K' k => k⟩
  case strS => split at h <;> first | exact h.elim | exact ⟨_, _, _, h, fun K' k => k⟩
  case b2s =>
    obtain ⟨k, l, h1, hG⟩ := srcSl_pt h
    exact ⟨_, _, _, h1.2, fun K' k => hG _ ⟨h1.1, k⟩⟩
  case s2b => split at h <;> first | exact h.elim | exact ⟨_, _, _, h, fun K' k => k⟩
  case mkfn => exact ⟨_, _, _, h, fun K' k => k⟩
  case mksl =>
    obtain ⟨i, h1, hG⟩ := onInt_pt h
    obtain ⟨j, ⟨h2, h3, h4, h5, h6⟩, hG'⟩ := onInt_pt h1
    exact ⟨_, _, _, h6, fun K' k => hG _ (hG' _ ⟨h2, h3, h4, h5, k⟩)⟩
  case slcS =>
    split at h
    · obtain ⟨h1, h2, h3⟩ := h
      obtain ⟨i, h4, hG⟩ := onOpt_pt h3
      obtain ⟨j, ⟨h5, h6, h7, h8⟩, hG'⟩ := onOpt_pt h4
      exact ⟨_, _, _, h8, fun K' k => ⟨h1, h2, hG _ (hG' _ ⟨h5, h6, h7, k⟩)⟩⟩
    · exact h.elim
  case slcA =>
    split at h
    · obtain ⟨i, h4, hG⟩ := onOpt_pt h
      obtain ⟨j, ⟨h5, h6, h7, h8⟩, hG'⟩ := onOpt_pt h4
      exact ⟨_, _, _, h8, fun K' k => hG _ (hG' _ ⟨h5, h6, h7, k⟩)⟩
    · exact h.elim
  case slcT =>
    split at h
    · obtain ⟨i, h4, hG⟩ := onOpt_pt h
      obtain ⟨j, ⟨h5, h6, h7, h8⟩, hG'⟩ := onOpt_pt h4
      exact ⟨_, _, _, h8, fun K' k => hG _ (hG' _ ⟨h5, h6, h7, k⟩)⟩
    · exact h.elim
  case arrAt =>
    split at h
    · obtain ⟨h1, h2, h3, h4⟩ := h; exact ⟨_, _, _, h4, fun K' k => ⟨h1, h2, h3, k⟩⟩
    · exact h.elim
  case ext =>
    split at h
    · obtain ⟨v, h1, h2⟩ := h; exact ⟨_, _, _, h2, fun K' k => ⟨v, h1, k⟩⟩
    · exact h.elim
  case call => exact hc _ _ _ _ _ h
  case callp =>
    obtain ⟨h0, h⟩ := h
    obtain ⟨v, m', n', ⟨h1, h2, h3, h4⟩, h5⟩ := hc _ _ _ _ _ h
    exact ⟨v, _, _, h4, fun K' k => ⟨h0, h5 _ ⟨h1, h2, h3, k⟩⟩⟩
  case callv =>
    split at h
    · exact hc _ _ _ _ _ h
    · exact h.elim
  case len b x => split at h <;> first | exact h.elim | exact ⟨_, _, _, h, fun K' k => k⟩
  case lenA => exact ⟨_, _, _, h, fun K' k => k⟩
  case app =>
    obtain ⟨k, l, h1, hG⟩ := srcOf_pt h
    split at h1
    · rename_i he; simp only [he] at *
      obtain ⟨q1, q2, q3, q4, q5, B, q6, q7, q8, q9⟩ := h1
      exact ⟨_, _, _, q9, fun K' k => hG _ ⟨q1, q2, q3, q4, q5, B, q6, q7, q8, k⟩⟩
    · rename_i he; simp only [he] at *
      obtain ⟨q1, q2, q3⟩ := h1
      exact ⟨_, _, _, q3, fun K' k => hG _ ⟨q1, q2, k⟩⟩
    · exact h1.elim
  case copy =>
    obtain ⟨k, l, h1, hG⟩ := srcOf_pt h
    split at h1
    · rename_i he; simp only [he] at *
      obtain ⟨q1, B, e, q2, q3, q4, q5⟩ := h1
      exact ⟨_, _, _, q5, fun K' k => hG _ ⟨q1, B, e, q2, q3, q4, k⟩⟩
    · exact h1.elim
  case mx => split at h <;> first | exact h.elim | exact ⟨_, _, _, h, fun K' k => k⟩
  case mn => split at h <;> first | exact h.elim | exact ⟨_, _, _, h, fun K' k => k⟩
theorem exO_mono {T : List (Nat × List SV)} {call : CallT} (hc : PointC call) {fr : Fr} {m : Mem} {n : Nat} {K K' : Kt} {s : SOp} (h : exO T call fr m n K s)
    (hK : ∀ v m n, K v m n → K' v m n) : exO T call fr m n K' s :=
  let ⟨_, _, _, h1, h2⟩ := exO_point hc h
  h2 K' (hK _ _ _ h1)
end Go.Sx
