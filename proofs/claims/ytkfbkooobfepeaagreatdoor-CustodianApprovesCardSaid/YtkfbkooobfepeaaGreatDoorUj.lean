/- The proof, part Uj: the texts ApK. -/
import Derived.Test.YtkfbkooobfepeaaGreatDoorUi
import Derived.Test.YtkfbkooobfepeaaGreatDoorCards
import Derived.Test.YtkfbkooobfepeaaGreatDoorTie
import Derived.RowKit
import Derived.ProofKit
import Derived.Deep.DeepHandedRow
set_option linter.unusedSimpArgs false
set_option linter.unusedVariables false
/- What the law of layer 30 needs of the seat: the tables, a world for the witness. -/
namespace Go.Proofs.YtkfbkooobfepeaaGreatDoor
open Go Go.Sx Go.ChangeShapes Go.WideShapes
set_option maxRecDepth 100000
set_option linter.unusedSimpArgs false
set_option linter.unusedVariables false
theorem own:ownKnob Tryz.prog.godebug=none:=by kernel_rfl
def nHash:String:=((Rows.custodianApprovesRow.laid.map (·.1)).drop 1).headD default
def nRef:String:=(Rows.custodianApprovesRow.laid.map (·.1)).headD default
theorem gHash:Tryz.prog.globalNamed nHash=some 1:=by kernel_rfl
theorem gHashType:(Tryz.prog.globals[1]?).map (·.type)=some 154:=by kernel_rfl
theorem flatHash:flatT Tryz.prog 5 154=some 64:=by kernel_rfl
theorem litsHash:(litsOf (H:=Unit) Rows.laid_custody_hash_constants).length=64:=by rfl
theorem convHash:(litsOf (H:=Unit) Rows.laid_custody_hash_constants).map convV=kc.map u32:=by rfl
theorem gRef:Tryz.prog.globalNamed nRef=some 0:=by kernel_rfl
theorem gRefType:(Tryz.prog.globals[0]?).map (·.type)=some 154:=by kernel_rfl
theorem litsRef:(litsOf (H:=Unit) Rows.laid_custody_custodyref02_constants).length=64:=by rfl
theorem convRef:(litsOf (H:=Unit) Rows.laid_custody_custodyref02_constants).map convV=kc.map u32:=by rfl
theorem table2 {W:World} (h:laidMet Tryz.prog Rows.custodianApprovesRow.laid W):TabOk tH2 W:=by
  obtain ⟨ps,h,_⟩:=h
  intro g cs hm
  simp only [tH2,List.mem_cons,List.not_mem_nil,or_false] at hm
  rcases hm with hm | hm
  · cases hm
    rw [← convRef]
    exact tab_of_laid h (name:=nRef) List.mem_cons_self gRef gRefType flatHash litsRef (by decide)
  · cases hm
    rw [← convHash]
    exact tab_of_laid h (name:=nHash) (List.mem_cons_of_mem _ List.mem_cons_self) gHash gHashType flatHash litsHash (by decide)
theorem table20 {W:World} (h:laidMet Tryz.prog Rows.custodianApprovesRow.laid W):0 < W.heap.size:=
  (table2 h 0 _ List.mem_cons_self).1
theorem boolT:Tryz.prog.underlying 4=some .bool:=by kernel_rfl
theorem u8_range {n:Int} (h:(Lit.int .u8 n).wf=true):0≤n∧n < 256:=by
  simp [Lit.wf,IntKind.min,IntKind.max,IntKind.signed,IntKind.bits] at h;omega
noncomputable def laidWorld1 (os:Os):World:=
  { World.holding Tryz.prog os ⟨#[],#[],[]⟩ with heap:=(World.holding Tryz.prog os ⟨#[],#[],[]⟩).heap.modify 1 fun
      | .cells _ t frozen=>.cells (litsOf (H:=Unit) Rows.laid_custody_hash_constants).toArray t frozen
      | o=>o }
noncomputable def laidWorld2 (os:Os):World:=
  { laidWorld1 os with heap:=(laidWorld1 os).heap.modify 0 fun
      | .cells _ t frozen=>.cells (litsOf (H:=Unit) Rows.laid_custody_custodyref02_constants).toArray t frozen
      | o=>o }
theorem opn_u8s {ks:List LK} {n n':Nat} {m:Mem}:∀ (k:Nat) {vs:List SV},Opn (List.replicate k (.t (.i .u8))++ks) n vs m n'→∃ (d:List UInt8) (vs':List SV),d.length=k∧vs=bys d++vs'∧Opn ks n vs' m n'
  | 0,vs,h=>⟨[],vs,rfl,rfl,h⟩
  | k+1,vs,h=>by
    rw [List.replicate_succ,List.cons_append] at h
    simp only [Opn,TagSV] at h
    obtain ⟨v,r,rfl,⟨x,rfl,hx⟩,h⟩:=h
    obtain ⟨d,vs',h1,rfl,h2⟩:=opn_u8s k h
    refine ⟨UInt8.ofNat x.toNat :: d,vs',by simp [h1],?_,h2⟩
    rw [u8_byte (u8_range hx)]
    rfl
end Go.Proofs.YtkfbkooobfepeaaGreatDoor
