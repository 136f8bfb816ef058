/- The engine, part Z: the reading of plain data does not look at the world. -/
import Derived.Test.YtflkcganpgjkkaaDoorEngY
namespace Go.Sx
open Go Go.WideShapes Go.ChangeShapes
set_option linter.unusedSimpArgs false
set_option linter.unusedVariables false

def plainTy (P : Program) : Nat → TypeId → Bool
  | 0, _ => false
  | d + 1, t => match P.underlying t with
    | some .bool | some (.int _) | some .string => true
    | some (.struct fs) => fs.toList.all fun f => plainTy P d f.type
    | some (.array _ e) => plainTy P d e
    | _ => false

theorem mapM_congr' {α β : Type} {f g : α → Option β} : ∀ (l : List α), (∀ x ∈ l, f x = g x) → l.mapM f = l.mapM g
  | [], _ => rfl
  | x :: l, h => by
    simp only [List.mapM_cons]
    rw [h x List.mem_cons_self, mapM_congr' l fun y hy => h y (List.mem_cons_of_mem _ hy)]

theorem trod_plain {H : Type} {enc : TypeId × Value → H} {P : Program} {w w' : World} {b b' : Nat} {sp sp' : Nat → Bool} {hd hd' : Bool} :
    ∀ (fuel d : Nat) (t : TypeId) (cs : List Value), plainTy P d t = true → DataW.trod enc P w b sp hd fuel t cs = DataW.trod enc P w' b' sp' hd' fuel t cs
  | 0, _, _, _, _ => rfl
  | fuel + 1, 0, _, _, h => by simp [plainTy] at h
  | fuel + 1, d + 1, t, cs, h => by
    simp only [plainTy] at h
    unfold DataW.trod
    split at h
    · rename_i hu; simp only [hu]; rcases cs with _ | ⟨c, _ | ⟨c', r⟩⟩ <;> (try cases c) <;> rfl
    · rename_i hu; simp only [hu]; rcases cs with _ | ⟨c, _ | ⟨c', r⟩⟩ <;> (try cases c) <;> rfl
    · rename_i hu; simp only [hu]; rcases cs with _ | ⟨c, _ | ⟨c', r⟩⟩ <;> (try cases c) <;> rfl
    · rename_i fs hu
      simp only [hu]
      have : (fs.toList.mapM fun f => DataW.trod enc P w b sp hd fuel f.type ((cs.drop f.offset).take (P.cellsOf f.type))) = fs.toList.mapM fun f => DataW.trod enc P w' b' sp' hd' fuel f.type ((cs.drop f.offset).take (P.cellsOf f.type)) := by
        exact mapM_congr' _ fun f hf => trod_plain fuel d _ _ (List.all_eq_true.1 h f hf)
      rw [this]
    · rename_i n e hu
      simp only [hu]
      have : ((List.range n).mapM fun i => DataW.trod enc P w b sp hd fuel e ((cs.drop (i * P.cellsOf e)).take (P.cellsOf e))) = (List.range n).mapM fun i => DataW.trod enc P w' b' sp' hd' fuel e ((cs.drop (i * P.cellsOf e)).take (P.cellsOf e)) := by
        congr 1
        funext i
        exact trod_plain fuel d _ _ h
      rw [this]
    · cases h
end Go.Sx
