/- The engine, part Y: from what the engine knows of a function to a contract of the model. -/
import Derived.Test.YtflkcganpgjkkaaDoorEngX
import Derived.ChangeSame
namespace Go.Sx
open Go Go.WideShapes Go.ChangeShapes
set_option linter.unusedSimpArgs false
set_option linter.unusedVariables false

def noEnv : Env := fun _ => none

theorem keptBut_of_heap {w w' : World} (hs : w'.os = w.os ∧ w'.output = w.output) (h : ∀ b, b < w.heap.size → w'.heap[b]? = w.heap[b]?) : w.keptBut w' fun _ => False := by
  refine ⟨hs.1, hs.2, fun i hi => ?_⟩
  rw [h i hi]
  cases ho : w.heap[i]? with
  | none => rfl
  | some o =>
    cases o <;> simp

/-- a function of plain values, in the model's calculus -/
theorem calls_of_fun {P : Program} {T : List (Nat × List SV)} {f : FuncId} {args : List SV} {b : Bool} (F : Fun P T f args [] 0 (.bool b) [] 0) {w : World} {vals : List Value}
    (hT : TabOk T w) (hv : SV.isL noEnv args vals) :
    Calls P f vals.toArray w fun e w' => e = .returned (.bool b) ∧ w.keptBut w' (fun _ => False) := by
  refine (F.run noEnv w vals ?_ ?_ hv).mono ?_
  · refine ⟨fun i B h => by simp at h, fun i B j B' L L' b h => by simp at h, fun i _ => rfl, fun i B L b h => by simp at h, Nat.le_refl _, fun _ _ _ => rfl, fun _ _ => rfl, rfl, rfl⟩
  · exact ⟨hT, fun g cs _ ho => by obtain ⟨i, B, L, h, _⟩ := ho; simp at h⟩
  · rintro e w' ⟨x, ρ', rfl, _, h2, h3⟩
    have hx : x = .bool b := by simpa only [SV.is] using h2
    subst hx
    exact ⟨rfl, keptBut_of_heap h3.side fun b hb => h3.frame b hb (fun ho => by obtain ⟨i, B, L, h, _⟩ := ho; simp at h)⟩

/-- what a law's row asks behind the call, where nothing that was there has changed -/
theorem post_kept {H : Type} {enc : TypeId × Value → H} {P : Program} {f : Func} {s : ChangeSpec} {apart fresh handsOn : Bool} {W W' : World} {args : Array Value} {v : Value} {ds gs : List (DataW H)} {before pa pv : List MemPlace}
    (hW : DataW.Whole enc P f.params.toList s.vars apart W args.toList ds gs before)
    (hres : ∀ (b : Nat) (sp : Nat → Bool) (hd : Bool), DataW.TrodAll enc P W' b sp hd f.resultTypes.toList (v.resultList f.resultTypes.size) (s.fn H (ds ++ gs)).results [])
    (hargs : ∀ sp : Nat → Bool, (∀ p ∈ before, sp p.block = true) → DataW.TrodAll enc P W' 0 sp true f.params.toList args.toList (s.fn H (ds ++ gs)).args pa)
    (hvars : ∀ sp : Nat → Bool, (∀ p ∈ before, sp p.block = true) → DataW.TrodVars enc P W' sp s.vars (s.fn H (ds ++ gs)).vars pv)
    (hk : W.keptBut W' (fun _ => False)) : s.post enc P f apart fresh handsOn false W args v W' := by
  have hold : ∀ p ∈ before, (fun b => decide (b < W.heap.size)) p.block = true := fun p hp => by simpa using hW.lt p hp
  exact ⟨ds, gs, before, [], pa, pv, hW, hres _ _ _, hargs _ hold, hvars _ hold, World.keptBut_mono (fun p hp => hp.elim) hk, fun h => by cases h⟩
end Go.Sx
