/- The proof, part Va: EngA, EngB, EngC, EngD, EngE, EngF, EngG, EngH, EngI, EngJ, EngJa, EngK, EngL, EngLa. -/
import Derived.Calls
import Derived.LoopN
import Derived.Orders
import Derived.Scope
import Derived.KernelRfl
import Derived.Laws.Sem
import Derived.Laws.Cells
import Derived.Laws.IdiomCopy
import Derived.Laws.Strings2
import Derived.Laws.BytesArg
import Derived.Laws.IdiomStrings
import Derived.Laws.Append
import Derived.IntWalk
import Derived.StringKeys
import Derived.WideKeyArr
import Derived.Laws.StructEq
import Derived.Lib.UnsafeStr
import Derived.Lib.Builder
import Derived.Lib.BytesEntry
import Derived.Laws.Externs
import Derived.LaidEqlPtr
set_option linter.unusedSimpArgs false
set_option linter.unusedVariables false
set_option maxRecDepth 100000
set_option maxHeartbeats 16000000
namespace Go.Sx
open Go
structure Loc where
 blk:Option Nat
 st:Nat
 cap:Nat
abbrev dO:=Nat→Option Loc
inductive SV where
 | any
 | int (k:IntKind) (n:Int)
 | bool (b:Bool)
 | str (s:List UInt8)
 | ptr (i o:Nat)
 | gp (g o:Nat)
 | slc (i o s len:Nat) (cap:Option Nat)
 | val (v:Value)
 | fn (f:FuncId) (first captured:List SV)
 | agg (l:List SV)
 | tup (l:List SV)
 | mp (i:Nat)
mutual
def SV.is (ρ:dO):SV→Value→Prop
 | .any,_=>True
 | .int k n,x=>x=.int k n
 | .bool b,x=>x=.bool b
 | .str s,x=>x=.string ⟨s.toArray⟩
 | .ptr i o,x=>∃ L b,ρ i=some L∧L.blk=some b∧x=.pointer (some ⟨b,L.st+o,none⟩)
 | .gp g o,x=>x=.pointer (some ⟨g,o,none⟩)
 | .slc i o s len cap,x=>∃ L A,ρ i=some L∧x=.slice A len (cap.getD ((L.cap - o) / s)) ∧
  (A=L.blk.map (fun b=>(⟨b,L.st+o,none⟩:Addr))∨(len=0∧cap.getD ((L.cap - o) / s)=0∧(A=none↔L.blk=none)))
 | .val v,x=>x=v
 | .fn f as bs,x=>∃ as' bs',SV.isL ρ as as'∧SV.isL ρ bs bs'∧x=.func (.func f) as'.toArray bs'.toArray
 | .agg l,x=>∃ l',SV.isL ρ l l'∧(∀ y∈l',y.oneCell'=true)∧x=.agg l'.toArray
 | .tup l,x=>∃ l',SV.isL ρ l l'∧x=.tuple l'.toArray
 | .mp i,x=>∃ L b,ρ i=some L∧L.blk=some b∧x=.map (some b)
def SV.isL (ρ:dO):List SV→List Value→Prop
 | [],ys=>ys=[]
 | a :: l,ys=>∃ y ys',ys=y :: ys'∧SV.is ρ a y∧SV.isL ρ l ys'
end
def SV.one:SV→Bool
 | .any|.agg _|.tup _=>false
 | .val v=>v.oneCell'
 | _=>true
theorem SV.one_is {ρ:dO} {v:SV} {x:Value} (h:v.one=true) (hx:v.is ρ x):x.oneCell'=true:=by
 cases v <;> simp_all [SV.one,SV.is,Value.oneCell']
 case ptr=>obtain⟨L,_,b,_,rfl⟩:=hx;rfl
 case slc=>obtain⟨L,_,A,rfl,_⟩:=hx;rfl
 case fn=>obtain⟨_,_,_,_,rfl⟩:=hx;rfl
 case mp=>obtain⟨L,_,b,_,rfl⟩:=hx;rfl
def dO.le (ρ ρ':dO):Prop:=∀ i L,ρ i=some L→ρ' i=some L
theorem dO.le_refl (ρ:dO):ρ.le ρ:=fun _ _ h=>h
theorem dO.le_trans {a b c:dO} (h:a.le b) (h':b.le c):a.le c:=fun i L e=>h' i L (h i L e)
mutual
theorem SV.is_mono {ρ ρ':dO} (h:ρ.le ρ'):∀ (v:SV) (x:Value),v.is ρ x→v.is ρ' x
 | .any,_,_=>trivial
 | .int _ _,_,hx=>hx
 | .bool _,_,hx=>hx
 | .str _,_,hx=>hx
 | .gp _ _,_,hx=>hx
 | .val _,_,hx=>hx
 | .ptr i o,x,hx=>by
  simp only[SV.is] at hx ⊢
  obtain⟨L,b,h1,h2,h3⟩:=hx;exact⟨L,b,h _ _ h1,h2,h3⟩
 | .slc i o s len cap,x,hx=>by
  simp only[SV.is] at hx ⊢
  obtain⟨L,A,h1,h2⟩:=hx;exact⟨L,A,h _ _ h1,h2⟩
 | .fn f as bs,x,hx=>by
  simp only[SV.is] at hx ⊢
  obtain⟨as',bs',h1,h2,h3⟩:=hx
  exact⟨as',bs',SV.isL_mono h as as' h1,SV.isL_mono h bs bs' h2,h3⟩
 | .agg l,x,hx=>by
  simp only[SV.is] at hx ⊢
  obtain⟨l',h1,h2,h3⟩:=hx;exact⟨l',SV.isL_mono h l l' h1,h2,h3⟩
 | .tup l,x,hx=>by
  simp only[SV.is] at hx ⊢
  obtain⟨l',h1,h3⟩:=hx;exact⟨l',SV.isL_mono h l l' h1,h3⟩
 | .mp i,x,hx=>by
  simp only[SV.is] at hx ⊢
  obtain⟨L,b,h1,h2⟩:=hx;exact⟨L,b,h _ _ h1,h2⟩
theorem SV.isL_mono {ρ ρ':dO} (h:ρ.le ρ'):∀ (l:List SV) (xs:List Value),SV.isL ρ l xs→SV.isL ρ' l xs
 | [],xs,hx=>by simpa only [SV.isL] using hx
 | a :: l,xs,hx=>by
  simp only[SV.isL] at hx ⊢
  obtain⟨y,ys,h1,h2,h3⟩:=hx
  exact⟨y,ys,h1,SV.is_mono h a y h2,SV.isL_mono h l ys h3⟩
end
theorem SV.isL_length {ρ:dO}:∀ {l:List SV} {xs:List Value},SV.isL ρ l xs→xs.length=l.length
 | [],xs,h=>by simp only[SV.isL] at h;subst h;rfl
 | a :: l,xs,h=>by
  simp only[SV.isL] at h
  obtain⟨y,ys,rfl,_,h3⟩:=h
  simp[SV.isL_length h3]
theorem SV.isL_get {ρ:dO}:∀ {l:List SV} {xs:List Value},SV.isL ρ l xs→∀ (j:Nat) v,l[j]?=some v→∃ x,xs[j]?=some x∧v.is ρ x
 | [],_,_,j,v,hj=>by simp at hj
 | a :: l,xs,h,j,v,hj=>by
  simp only[SV.isL] at h
  obtain⟨y,ys,rfl,h2,h3⟩:=h
  cases j with
  | zero=>simp at hj;subst hj;exact⟨y,rfl,h2⟩
  | succ j=>simpa using SV.isL_get h3 j v (by simpa using hj)
theorem SV.isL_of_get {ρ:dO}:∀ {l:List SV} {xs:List Value},xs.length=l.length →
  (∀ (j:Nat) v,l[j]?=some v→∃ x,xs[j]?=some x∧v.is ρ x)→SV.isL ρ l xs
 | [],xs,hn,_=>by simp only[SV.isL];simpa using hn
 | a :: l,xs,hn,h=>by
  cases xs with
  | nil=>simp at hn
  | cons y ys=>
   simp only[SV.isL]
   refine⟨y,ys,rfl,?_,SV.isL_of_get (by simpa using hn) (fun j v hj=>?_)⟩
   ·obtain⟨x,hx,hv⟩:=h 0 a rfl
    simp at hx;subst hx;exact hv
   ·simpa using h (j+1) v (by simpa using hj)
-- renaming of blocks: block i of the small description is block (η i).1 of the large one, from its cell (η i).2 on
mutual
def SV.ren (η:Nat→Nat × Nat):SV→SV
 | .any=>.any
 | .int k n=>.int k n
 | .bool b=>.bool b
 | .str s=>.str s
 | .ptr i o=>.ptr (η i).1 ((η i).2+o)
 | .gp g o=>.gp g o
 | .slc i o s len cap=>.slc (η i).1 ((η i).2+o) s len cap
 | .val v=>.val v
 | .fn f as bs=>.fn f (SV.renL η as) (SV.renL η bs)
 | .agg l=>.agg (SV.renL η l)
 | .tup l=>.tup (SV.renL η l)
 | .mp i=>.mp (η i).1
def SV.renL (η:Nat→Nat × Nat):List SV→List SV
 | []=>[]
 | a :: l=>SV.ren η a :: SV.renL η l
end
theorem SV.renL_eq (η:Nat→Nat × Nat):∀ l,SV.renL η l=l.map (SV.ren η)
 | []=>by simp[SV.renL]
 | a :: l=>by simp[SV.renL,SV.renL_eq η l]
def Loc.shift (L:Loc) (s:Nat):Loc:=⟨L.blk,L.st+s,L.cap - s⟩
def dO.via (ρ:dO) (η:Nat→Nat × Nat):dO:=fun i=>(ρ (η i).1).map (·.shift (η i).2)
mutual
theorem SV.is_ren {ρ:dO} {η:Nat→Nat × Nat}:∀ (v:SV) (x:Value),(v.ren η).is ρ x↔v.is (ρ.via η) x
 | .any,_=>by simp[SV.ren,SV.is]
 | .int _ _,_=>by simp[SV.ren,SV.is]
 | .bool _,_=>by simp[SV.ren,SV.is]
 | .str _,_=>by simp[SV.ren,SV.is]
 | .gp _ _,_=>by simp[SV.ren,SV.is]
 | .val _,_=>by simp[SV.ren,SV.is]
 | .ptr i o,x=>by
  simp only[SV.ren,SV.is,dO.via,Option.map_eq_some_iff]
  constructor
  ·rintro⟨L,b,h1,h2,h3⟩
   exact⟨_,b,⟨L,h1,rfl⟩,h2,by rw[h3];simp[Loc.shift,Nat.add_assoc]⟩
  ·rintro⟨_,b,⟨L,h1,rfl⟩,h2,h3⟩
   exact⟨L,b,h1,h2,by rw[h3];simp[Loc.shift,Nat.add_assoc]⟩
 | .slc i o s len cap,x=>by
  simp only[SV.ren,SV.is,dO.via,Option.map_eq_some_iff]
  constructor
  ·rintro⟨L,A,h1,h2,h3⟩
   exact⟨_,A,⟨L,h1,rfl⟩,by rw[h2];simp[Loc.shift,Nat.sub_sub],by simpa [Loc.shift,Nat.add_assoc,Nat.sub_sub] using h3⟩
  ·rintro⟨_,A,⟨L,h1,rfl⟩,h2,h3⟩
   exact⟨L,A,h1,by rw[h2];simp[Loc.shift,Nat.sub_sub],by simpa [Loc.shift,Nat.add_assoc,Nat.sub_sub] using h3⟩
 | .fn f as bs,x=>by
  simp only[SV.ren,SV.is,SV.isL_ren as,SV.isL_ren bs]
 | .agg l,x=>by simp only[SV.ren,SV.is,SV.isL_ren l]
 | .tup l,x=>by simp only[SV.ren,SV.is,SV.isL_ren l]
 | .mp i,x=>by
  simp only[SV.ren,SV.is,dO.via,Option.map_eq_some_iff]
  constructor
  ·rintro⟨L,b,h1,h2,h3⟩
   exact⟨_,b,⟨L,h1,rfl⟩,h2,h3⟩
  ·rintro⟨_,b,⟨L,h1,rfl⟩,h2,h3⟩
   exact⟨L,b,h1,h2,h3⟩
theorem SV.isL_ren {ρ:dO} {η:Nat→Nat × Nat}:∀ (l:List SV) (xs:List Value),SV.isL ρ (SV.renL η l) xs↔SV.isL (ρ.via η) l xs
 | [],xs=>by simp[SV.renL,SV.isL]
 | a :: l,xs=>by simp only[SV.renL,SV.isL,SV.is_ren a,SV.isL_ren l]
end
-- values that name no block
mutual
def SV.flat:SV→Bool
 | .ptr _ _=>false
 | .slc _ _ _ _ _=>false
 | .mp _=>false
 | .fn _ as bs=>SV.flatL as && SV.flatL bs
 | .agg l=>SV.flatL l
 | .tup l=>SV.flatL l
 | _=>true
def SV.flatL:List SV→Bool
 | []=>true
 | a :: l=>SV.flat a && SV.flatL l
end
mutual
theorem SV.flat_ren (η:Nat→Nat × Nat):∀ v:SV,v.flat=true→v.ren η=v
 | .any,_=>by simp[SV.ren]
 | .int _ _,_=>by simp[SV.ren]
 | .bool _,_=>by simp[SV.ren]
 | .str _,_=>by simp[SV.ren]
 | .gp _ _,_=>by simp[SV.ren]
 | .val _,_=>by simp[SV.ren]
 | .ptr _ _,h=>by simp[SV.flat] at h
 | .slc _ _ _ _ _,h=>by simp[SV.flat] at h
 | .mp _,h=>by simp[SV.flat] at h
 | .fn f as bs,h=>by
  simp only[SV.flat,Bool.and_eq_true] at h
  simp only[SV.ren,SV.flatL_ren η as h.1,SV.flatL_ren η bs h.2]
 | .agg l,h=>by
  simp only[SV.flat] at h
  simp only[SV.ren,SV.flatL_ren η l h]
 | .tup l,h=>by
  simp only[SV.flat] at h
  simp only[SV.ren,SV.flatL_ren η l h]
theorem SV.flatL_ren (η:Nat→Nat × Nat):∀ l:List SV,SV.flatL l=true→SV.renL η l=l
 | [],_=>by simp[SV.renL]
 | a :: l,h=>by
  simp only[SV.flatL,Bool.and_eq_true] at h
  simp only[SV.renL,SV.flat_ren η a h.1,SV.flatL_ren η l h.2]
end
mutual
theorem SV.ren_id (η:Nat→Nat × Nat) (hη:∀ i,η i=(i,0)):∀ v:SV,v.ren η=v
 | .any=>by simp[SV.ren]
 | .int _ _=>by simp[SV.ren]
 | .bool _=>by simp[SV.ren]
 | .str _=>by simp[SV.ren]
 | .gp _ _=>by simp[SV.ren]
 | .val _=>by simp[SV.ren]
 | .ptr _ _=>by simp[SV.ren,hη]
 | .slc _ _ _ _ _=>by simp[SV.ren,hη]
 | .fn f as bs=>by simp only[SV.ren,SV.renL_id η hη as,SV.renL_id η hη bs]
 | .agg l=>by simp only[SV.ren,SV.renL_id η hη l]
 | .tup l=>by simp only[SV.ren,SV.renL_id η hη l]
 | .mp _=>by simp[SV.ren,hη]
theorem SV.renL_id (η:Nat→Nat × Nat) (hη:∀ i,η i=(i,0)):∀ l:List SV,SV.renL η l=l
 | []=>by simp[SV.renL]
 | a :: l=>by simp only[SV.renL,SV.ren_id η hη a,SV.renL_id η hη l]
end
inductive KV where
 | str (s:List UInt8)
 | arr (l:List UInt8)
 deriving DecidableEq
def KV.val:KV→Value
 | .str s=>.string ⟨s.toArray⟩
 | .arr l=>.agg (l.map fun c=>Value.int .u8 (c.toNat:Int)).toArray
def cH:Nat:=9223372036854775807
def KV.ok:Option Nat→KV→Prop
 | none,.str s=>s.length≤cH
 | some n,.arr l=>l.length=n
 | _,_=>False
inductive Kind where
 | own (e:TypeId)
 | view
 | map (a:Option Nat) (ks:List KV)
structure Blk where
 kind:Kind
 cells:List SV
abbrev bL:=List (Nat × Blk)
def Blk.cellsOk (ρ:dO) (w:World) (B:Blk) (b st:Nat):Prop:=
 ∀ j v,B.cells[j]?=some v→∃ x,w.cell? ⟨b,st+j,none⟩=some x∧v.is ρ x∧x.oneCell'=true
def Blk.okAt (ρ:dO) (w:World) (B:Blk) (L:Loc):Prop:=
 match L.blk with
 | none=>B.cells=[]∧L.cap=0
 | some b=>b < w.heap.size∧B.cellsOk ρ w b L.st ∧
  match B.kind with
  | .view=>B.cells.length≤L.cap
  | .own e=>L.st=0∧B.cells.length≤L.cap ∧
   ∃ cs fz,w.heap[b]?=some (.cells cs e fz)∧cs.size=L.cap∧(fz.1=fz.2∨cs.size≤fz.1)
  | .map a ks=>L.st=0∧B.cells=[]∧(∃ es clock,w.heap[b]?=some (.map es clock)∧es.toList.map (·.key)=ks.map KV.val)∧∀ kv∈ks,kv.ok a
def Blk.own (B:Blk):Prop:=B.kind≠.view
theorem s6 {B:Blk} {e:TypeId} (h:B.kind=.own e):B.own:=by unfold Blk.own;rw[h];simp
structure Ctx where
 P:Program
 w0:World
 ρ0:dO
 n0:Nat
 wr:Nat→Prop
 T:List (Nat × List SV)
structure MemOk (C:Ctx) (ρ:dO) (mem:bL) (v8:Nat) (w:World):Prop where
 blk:∀ i B,(i,B)∈mem→∃ L,ρ i=some L∧B.okAt ρ w L
 apart:∀ i B j B' L L' b,(i,B)∈mem→(j,B')∈mem→i≠j→B.own→ρ i=some L→ρ j=some L'→L.blk=some b→L'.blk≠some b
 fresh:∀ i,v8≤i→ρ i=none
 wrt:∀ i B L b,(i,B)∈mem→B.own→ρ i=some L→L.blk=some b→C.w0.heap.size≤b∨C.wr b
 size:C.w0.heap.size≤w.heap.size
 frame:∀ b,b < C.w0.heap.size→¬ C.wr b→w.heap[b]?=C.w0.heap[b]?
 keep:∀ i,i < C.n0→ρ i=C.ρ0 i
 side:(w.os,w.tape)=(C.w0.os,C.w0.tape)∧w.output=C.w0.output
def wA (T:List (Nat × List SV)) (w:World):Prop:=
 ∀ g cs,(g,cs)∈T→g < w.heap.size∧∀ (j:Nat) v,cs[j]?=some v→∃ x,w.cell? ⟨g,j,none⟩=some x∧v.is (fun _=>none) x∧x.oneCell'=true
theorem fU {w w':World} {b o:Nat} (h:w'.heap[b]?=w.heap[b]?):w'.cell? ⟨b,o,none⟩=w.cell? ⟨b,o,none⟩:=by
 unfold World.cell?;rw[h]
theorem gW {w:World} {b o:Nat} {cs:Array Value} {e:TypeId} {fz:Nat × Nat} (h:w.heap[b]?=some (.cells cs e fz)) :
  w.cell? ⟨b,o,none⟩=cs[o]?:=by
 obtain⟨lo,hi⟩:=fz
 unfold World.cell?;rw[h];simp
theorem Mt {w:World} {b o:Nat} {x:Value} (h:w.cell? ⟨b,o,none⟩=some x):b < w.heap.size:=by
 unfold World.cell? at h
 rcases Nat.lt_or_ge b w.heap.size with h'|h'
 ·exact h'
 ·simp[Array.getElem?_eq_none h'] at h
theorem Blk.cellsOk.mono {ρ ρ':dO} {w w':World} {B:Blk} {b st:Nat} (h:B.cellsOk ρ w b st) (hρ:ρ.le ρ')
  (hw:w'.heap[b]?=w.heap[b]?):B.cellsOk ρ' w' b st:=fun j v hj=>
 let ⟨x,h1,h2,h3⟩:=h j v hj
 ⟨x,by rw[fU hw];exact h1,SV.is_mono hρ v x h2,h3⟩
theorem Blk.okAt.mono {ρ ρ':dO} {w w':World} {B:Blk} {L:Loc} (h:B.okAt ρ w L) (hρ:ρ.le ρ')
  (hw:∀ b,L.blk=some b→w'.heap[b]?=w.heap[b]?) (hs:w.heap.size≤w'.heap.size):B.okAt ρ' w' L:=by
 unfold Blk.okAt at *
 cases hb:L.blk with
 | none=>simpa [hb] using h
 | some b=>
  simp only[hb] at h ⊢
  obtain⟨h1,h2,h3⟩:=h
  refine⟨by omega,h2.mono hρ (hw b hb),?_⟩
  cases hk:B.kind with
  | view=>simpa only [hk] using h3
  | map k ks=>
   simp only[hk] at h3
   simp only
   rw[hw b hb];exact h3
  | own e=>
   simp only[hk] at h3
   simp only
   rw[hw b hb];exact h3
theorem Blk.okAt_len {ρ:dO} {w:World} {B:Blk} {L:Loc} (h:B.okAt ρ w L):B.cells.length≤L.cap:=by
 unfold Blk.okAt at h
 split at h
 ·rw[h.1];simp
 ·have h3:=h.2.2
  split at h3
  ·exact h3
  ·exact h3.2.1
  ·rw[h3.2.1];simp
theorem MemOk.heap_eq {C:Ctx} {ρ:dO} {mem:bL} {v8:Nat} {w w':World} (h:MemOk C ρ mem v8 w) (he:w'.heap=w.heap) (hsd:(w'.os,w'.tape)=(w.os,w.tape)∧w'.output=w.output):MemOk C ρ mem v8 w' where
 blk i B hi:=let ⟨L,h1,h2⟩:=h.blk i B hi;⟨L,h1,h2.mono (dO.le_refl _) (fun b _=>by rw[he]) (by rw[he];omega)⟩
 apart:=h.apart
 fresh:=h.fresh
 wrt:=h.wrt
 size:=by rw[he];exact h.size
 frame:=by rw[he];exact h.frame
 keep:=h.keep
 side:=⟨hsd.1.trans h.side.1,hsd.2.trans h.side.2⟩
theorem MemOk.sub {C:Ctx} {ρ:dO} {mem mem':bL} {v8 nxt':Nat} {w:World} (h:MemOk C ρ mem v8 w) (hs:∀ x∈mem',x∈mem) (hn:v8≤nxt'):MemOk C ρ mem' nxt' w where
 blk i B hi:=h.blk i B (hs _ hi)
 apart i B j B' L L' b hi hj:=h.apart i B j B' L L' b (hs _ hi) (hs _ hj)
 fresh i hi:=h.fresh i (by omega)
 wrt i B L b hi:=h.wrt i B L b (hs _ hi)
 size:=h.size
 frame:=h.frame
 keep:=h.keep
 side:=h.side
def dO.set (ρ:dO) (i:Nat) (L:Loc):dO:=fun j=>if j=i then some L else ρ j
theorem dO.le_set {ρ:dO} {i:Nat} {L:Loc} (h:ρ i=none):ρ.le (ρ.set i L):=fun j L' hj=>by
 unfold dO.set;split
 ·rename_i e;subst e;rw[h] at hj;cases hj
 ·exact hj
theorem MemOk.alloc {C:Ctx} {ρ:dO} {mem:bL} {v8:Nat} {w w':World} (h:MemOk C ρ mem v8 w) (hn:C.n0≤v8)
  (cs:Array Value) (e:TypeId) (fz:Nat × Nat) (vs:List SV) (hw:w'.heap=w.heap.push (.cells cs e fz)) (hsd:(w'.os,w'.tape)=(w.os,w.tape)∧w'.output=w.output)
  (hfz:fz.1=fz.2∨cs.size≤fz.1) (hlen:vs.length≤cs.size)
  (hcs:∀ (j:Nat) (v:SV),vs[j]?=some v→∃ x,cs[j]?=some x∧v.is ρ x∧x.oneCell'=true) :
  MemOk C (ρ.set v8 ⟨some w.heap.size,0,cs.size⟩) ((v8,⟨.own e,vs⟩) :: mem) (v8+1) w':=by
 have hle:ρ.le (ρ.set v8 ⟨some w.heap.size,0,cs.size⟩):=dO.le_set (h.fresh _ (Nat.le_refl _))
 have hold:∀ b,b < w.heap.size→w'.heap[b]?=w.heap[b]?:=fun b hb=>by rw[hw,Array.getElem?_push_lt hb];simp[hb]
 have hnew:w'.heap[w.heap.size]?=some (.cells cs e fz):=by rw[hw];simp
 have hsz:w'.heap.size=w.heap.size+1:=by rw[hw];simp
 have hin:∀ i B L b,(i,B)∈mem→ρ i=some L→L.blk=some b→b < w.heap.size:=fun i B L b hi hL hb=>by
  obtain⟨L',h1,h2⟩:=h.blk i B hi
  rw[hL] at h1;cases h1
  unfold Blk.okAt at h2;rw[hb] at h2;exact h2.1
 have hne:∀ i B,(i,B)∈mem→i≠v8:=fun i B hi e=>by
  obtain⟨L',h1,_⟩:=h.blk i B hi
  rw[e,h.fresh _ (Nat.le_refl _)] at h1;cases h1
 have hset:∀ i B,(i,B)∈mem→(ρ.set v8 ⟨some w.heap.size,0,cs.size⟩) i=ρ i:=fun i B hi=>by
  unfold dO.set;rw[if_neg (hne i B hi)]
 have hself:(ρ.set v8 ⟨some w.heap.size,0,cs.size⟩) v8=some ⟨some w.heap.size,0,cs.size⟩:=by unfold dO.set;rw[if_pos rfl]
 constructor
 ·intro i B hi
  rcases List.mem_cons.1 hi with hi|hi
  ·cases hi
   refine⟨_,hself,?_⟩
   unfold Blk.okAt
   refine⟨by omega,fun j v hj=>?_,rfl,hlen,cs,fz,hnew,rfl,hfz⟩
   obtain⟨x,h1,h2,h3⟩:=hcs j v hj
   exact⟨x,by rw[gW hnew];simpa using h1,SV.is_mono hle v x h2,h3⟩
  ·obtain⟨L,h1,h2⟩:=h.blk i B hi
   exact⟨L,by rw[hset i B hi];exact h1,h2.mono hle (fun b hb=>hold b (hin i B L b hi h1 hb)) (by omega)⟩
 ·intro i B j B' L L' b hi hj hij hown hL hL' hb
  rcases List.mem_cons.1 hi with hi|hi
  ·cases hi
   rw[hself] at hL;cases hL;simp at hb;subst hb
   rcases List.mem_cons.1 hj with hj|hj
   ·cases hj;exact (hij rfl).elim
   ·rw[hset j B' hj] at hL'
    intro hb';have:=hin j B' L' _ hj hL' hb';omega
  ·rw[hset i B hi] at hL
   rcases List.mem_cons.1 hj with hj|hj
   ·cases hj
    rw[hself] at hL';cases hL';simp
    have:=hin i B L b hi hL hb;omega
   ·rw[hset j B' hj] at hL'
    exact h.apart i B j B' L L' b hi hj hij hown hL hL' hb
 ·intro i hi
  have:=h.fresh i (by omega)
  unfold dO.set;rw[if_neg (by omega)];exact this
 ·intro i B L b hi hown hL hb
  rcases List.mem_cons.1 hi with hi|hi
  ·cases hi
   rw[hself] at hL;cases hL;simp at hb;subst hb
   exact .inl h.size
  ·rw[hset i B hi] at hL
   exact h.wrt i B L b hi hown hL hb
 ·have:=h.size;omega
 ·intro b hb hwr
  have:=h.size
  rw[hold b (by omega)];exact h.frame b hb hwr
 ·intro i hi
  unfold dO.set;rw[if_neg (by omega)];exact h.keep i hi
 ·exact⟨hsd.1.trans h.side.1,hsd.2.trans h.side.2⟩
def bC (mem:bL) (i:Nat) (B:Blk):bL:=mem.map fun x=>if x.1=i then (i,B) else x
theorem nC {mem:bL} {i:Nat} {B:Blk} {x:Nat × Blk} (h:x∈bC mem i B):(x=(i,B))∨(x∈mem∧x.1≠i):=by
 unfold bC at h
 obtain⟨y,hy,rfl⟩:=List.mem_map.1 h
 split
 ·exact .inl rfl
 ·rename_i hne;exact .inr ⟨hy,hne⟩
theorem MemOk.write {C:Ctx} {ρ:dO} {mem:bL} {v8:Nat} {w w':World} (h:MemOk C ρ mem v8 w)
  {i:Nat} {B:Blk} {e:TypeId} {L:Loc} {b:Nat} (hi:(i,B)∈mem) (hk:B.kind=.own e) (hL:ρ i=some L) (hb:L.blk=some b)
  (cs:Array Value) (fz:Nat × Nat) (vs:List SV) (hnew:w'.heap[b]?=some (.cells cs e fz)) (hsz:w'.heap.size=w.heap.size) (hsd:(w'.os,w'.tape)=(w.os,w.tape)∧w'.output=w.output)
  (hold:∀ b',b'≠b→w'.heap[b']?=w.heap[b']?) (hcap:cs.size=L.cap) (hfz:fz.1=fz.2∨cs.size≤fz.1) (hlen:vs.length≤cs.size)
  (hcs:∀ (j:Nat) (v:SV),vs[j]?=some v→∃ x,cs[j]?=some x∧v.is ρ x∧x.oneCell'=true) :
  MemOk C ρ (bC mem i ⟨.own e,vs⟩) v8 w':=by
 have hown:B.own:=s6 hk
 have hst:L.st=0:=by
  obtain⟨L',h1,h2⟩:=h.blk i B hi
  rw[hL] at h1;cases h1
  unfold Blk.okAt at h2;rw[hb] at h2;simp only[hk] at h2;exact h2.2.2.1
 have hne:∀ j B' L',(j,B')∈mem→j≠i→ρ j=some L'→L'.blk≠some b:=fun j B' L' hj hji hL'=>
  h.apart i B j B' L L' b hi hj (Ne.symm hji) hown hL hL' hb
 constructor
 ·intro j B' hj
  rcases nC hj with hj|⟨hj,hji⟩
  ·cases hj
   refine⟨L,hL,?_⟩
   unfold Blk.okAt;rw[hb]
   have hlt:b < w'.heap.size:=by
    rcases Nat.lt_or_ge b w'.heap.size with h'|h'
    ·exact h'
    ·rw[Array.getElem?_eq_none h'] at hnew;cases hnew
   refine⟨hlt,fun j v hj=>?_,hst,by rw[← hcap];exact hlen,cs,fz,hnew,hcap,hfz⟩
   obtain⟨x,h1,h2,h3⟩:=hcs j v hj
   exact⟨x,by rw[gW hnew,hst];simpa using h1,h2,h3⟩
  ·obtain⟨L',h1,h2⟩:=h.blk j B' hj
   exact⟨L',h1,h2.mono (dO.le_refl _) (fun b' hb'=>hold b' (fun e=>hne j B' L' hj hji h1 (e ▸ hb'))) (by omega)⟩
 ·intro j B' k B'' L1 L2 b' hj hk' hjk hown' h1 h2 h3
  rcases nC hj with hj|⟨hj,hji⟩
  ·cases hj
   rcases nC hk' with hk'|⟨hk',hki⟩
   ·cases hk';exact (hjk rfl).elim
   ·exact h.apart i B k B'' L1 L2 b' hi hk' hjk hown h1 h2 h3
  ·rcases nC hk' with hk'|⟨hk',hki⟩
   ·cases hk';exact h.apart j B' i B L1 L2 b' hj hi hjk hown' h1 h2 h3
   ·exact h.apart j B' k B'' L1 L2 b' hj hk' hjk hown' h1 h2 h3
 ·exact h.fresh
 ·intro j B' L1 b' hj hown' h1 h2
  rcases nC hj with hj|⟨hj,hji⟩
  ·cases hj;exact h.wrt i B L1 b' hi hown h1 h2
  ·exact h.wrt j B' L1 b' hj hown' h1 h2
 ·rw[hsz];exact h.size
 ·intro b' hb' hwr
  by_cases heq:b'=b
  ·subst heq
   rcases h.wrt i B L b' hi hown hL hb with h1|h1
   ·omega
   ·exact (hwr h1).elim
  ·rw[hold b' heq];exact h.frame b' hb' hwr
 ·exact h.keep
 ·exact⟨hsd.1.trans h.side.1,hsd.2.trans h.side.2⟩
theorem MemOk.replace {C:Ctx} {ρ:dO} {mem:bL} {v8:Nat} {w w':World} (h:MemOk C ρ mem v8 w)
  {i:Nat} {B B':Blk} {L:Loc} {b:Nat} (hi:(i,B)∈mem) (hown:B.own) (hL:ρ i=some L) (hb:L.blk=some b) (hB':B'.okAt ρ w' L)
  (hsz:w'.heap.size=w.heap.size) (hsd:(w'.os,w'.tape)=(w.os,w.tape)∧w'.output=w.output) (hold:∀ b',b'≠b→w'.heap[b']?=w.heap[b']?) :
  MemOk C ρ (bC mem i B') v8 w':=by
 have hne:∀ j B' L',(j,B')∈mem→j≠i→ρ j=some L'→L'.blk≠some b:=fun j B' L' hj hji hL'=>
  h.apart i B j B' L L' b hi hj (Ne.symm hji) hown hL hL' hb
 constructor
 ·intro j B1 hj
  rcases nC hj with hj|⟨hj,hji⟩
  ·cases hj;exact⟨L,hL,hB'⟩
  ·obtain⟨L',h1,h2⟩:=h.blk j B1 hj
   exact⟨L',h1,h2.mono (dO.le_refl _) (fun b' hb'=>hold b' (fun e=>hne j B1 L' hj hji h1 (e ▸ hb'))) (by omega)⟩
 ·intro j B1 k B2 L1 L2 b' hj hk' hjk hown' h1 h2 h3
  rcases nC hj with hj|⟨hj,hji⟩
  ·cases hj
   rcases nC hk' with hk'|⟨hk',hki⟩
   ·cases hk';exact (hjk rfl).elim
   ·exact h.apart i B k B2 L1 L2 b' hi hk' hjk hown h1 h2 h3
  ·rcases nC hk' with hk'|⟨hk',hki⟩
   ·cases hk';exact h.apart j B1 i B L1 L2 b' hj hi hjk hown' h1 h2 h3
   ·exact h.apart j B1 k B2 L1 L2 b' hj hk' hjk hown' h1 h2 h3
 ·exact h.fresh
 ·intro j B1 L1 b' hj hown' h1 h2
  rcases nC hj with hj|⟨hj,hji⟩
  ·cases hj;exact h.wrt i B L1 b' hi hown h1 h2
  ·exact h.wrt j B1 L1 b' hj hown' h1 h2
 ·rw[hsz];exact h.size
 ·intro b' hb' hwr
  by_cases heq:b'=b
  ·subst heq
   rcases h.wrt i B L b' hi hown hL hb with h1|h1
   ·omega
   ·exact (hwr h1).elim
  ·rw[hold b' heq];exact h.frame b' hb' hwr
 ·exact h.keep
 ·exact⟨hsd.1.trans h.side.1,hsd.2.trans h.side.2⟩
theorem MemOk.push {C:Ctx} {ρ:dO} {mem:bL} {v8:Nat} {w w':World} (h:MemOk C ρ mem v8 w) {o:Obj} (hw:w'.heap=w.heap.push o) (hsd:(w'.os,w'.tape)=(w.os,w.tape)∧w'.output=w.output):MemOk C ρ mem v8 w':=by
 have hold:∀ b,b < w.heap.size→w'.heap[b]?=w.heap[b]?:=fun b hb=>by rw[hw,Array.getElem?_push_lt hb];simp[hb]
 have hsz:w.heap.size≤w'.heap.size:=by rw[hw];simp
 constructor
 ·intro i B hi
  obtain⟨L,h1,h2⟩:=h.blk i B hi
  exact⟨L,h1,h2.mono (dO.le_refl _) (fun b hb=>hold b (by unfold Blk.okAt at h2;rw[hb] at h2;exact h2.1)) hsz⟩
 ·exact h.apart
 ·exact h.fresh
 ·exact h.wrt
 ·exact Nat.le_trans h.size hsz
 ·intro b hb hwr
  rw[hold b (Nat.lt_of_lt_of_le hb h.size)];exact h.frame b hb hwr
 ·exact h.keep
 ·exact⟨hsd.1.trans h.side.1,hsd.2.trans h.side.2⟩
inductive Opd where
 | t (n:Nat)
 | c (v:SV)
 | g (n:Nat)
 | f (n:FuncId)
abbrev Fr:=List (Nat × SV)
def get:Fr→Nat→SV
 | [],_=>.any
 | (e,v) :: r,d=>if e=d then v else get r d
def fF:Fr→Nat→Fr
 | [],_=>[]
 | (e,v) :: r,d=>if e=d then fF r d else (e,v) :: fF r d
def put (fr:Fr) (d:Nat) (v:SV):Fr:=(d,v) :: fF fr d
def aU:Fr→List Nat→Fr
 | fr,[]=>fr
 | fr,d :: r=>aU (fF fr d) r
def Opd.ev (fr:Fr):Opd→SV
 | .t n=>get fr n
 | .c v=>v
 | .g n=>.gp n 0
 | .f n=>.fn n [] []
inductive Tag where
 | i (k:IntKind)
 | b
 | s
 deriving DecidableEq
inductive SOp where
 | mv (x:Opd)
 | pick (c a b:Opd)
 | new (e:TypeId) (z:List SV)
 | box (e:TypeId) (x:Opd)
 | build (z:List SV) (parts:List (Nat × Nat × Opd))
 | bslice (e:TypeId) (s n:Nat) (z:List SV) (parts:List (Nat × Nat × Opd))
 | load (agg:Option Nat) (x:Opd)
 | store (n:Nat) (a x:Opd)
 | nilc (x:Opd)
 | fld (x:Opd) (off:Nat)
 | idxA (x i:Opd) (len s:Nat)
 | idxS (x i:Opd) (s:Nat)
 | idxV (x i:Opd) (len s:Nat) (agg:Bool)
 | idxT (x i:Opd)
 | fieldV (x:Opd) (off:Nat) (agg:Option Nat)
 | bin (op:BinOp) (x y:Opd)
 | eqv (neg:Bool) (pat:List Tag) (x y:Opd)
 | eqb (neg:Bool) (x y:Opd)
 | isNil (neg:Bool) (x:Opd)
 | un (op:UnOp) (x:Opd)
 | conv (k:IntKind) (x:Opd)
 | b2s (x:Opd)
 | strS (x:Opd)
 | s2b (e:TypeId) (x:Opd)
 | mkfn (f:FuncId) (first cap:List Opd)
 | mksl (e:TypeId) (s bytes:Nat) (z:List SV) (l c:Opd)
 | mkmap (a:Option Nat)
 | mput (a:Option Nat) (x key:Opd)
 | mlen (x:Opd)
 | mk8 (x:Opd)
 | capN (x:Opd)
 | pcmp (neg:Bool) (x y:Opd)
 | cvp (e:TypeId) (k:Nat) (x:Opd)
 | noesc (f:FuncId) (x:Opd)
 | sdat (s:Nat) (x:Opd)
 | ustr (e:TypeId) (x y:Opd)
 | appZ (e:TypeId) (s bytes:Nat) (z:List SV) (x k:Opd)
 | slcS (s:Nat) (x:Opd) (lo hi:Option Opd)
 | slcA (n s:Nat) (x:Opd) (lo hi:Option Opd)
 | slcT (x:Opd) (lo hi:Option Opd)
 | arrAt (n:Nat) (x:Opd)
 | ext (x:Opd) (i:Nat)
 | call (f:FuncId) (args:List Opd)
 | callv (x:Opd) (args:List Opd)
 | callp (f:FuncId) (args:List Opd)
 | len (isStr:Bool) (x:Opd)
 | lenA (n:Nat)
 | app (e:TypeId) (s bytes:Nat) (x y:Opd)
 | copy (s:Nat) (x y:Opd)
 | mx (x y:Opd)
 | mn (x y:Opd)
def rd (m:bL) (i:Nat):Option Blk:=
 match m with
 | []=>none
 | (j,B) :: r=>if j=i then some B else rd r i
theorem fM {m:bL} {i:Nat} {B:Blk} (h:rd m i=some B):(i,B)∈m:=by
 induction m with
 | nil=>simp[rd] at h
 | cons x r ih=>
  obtain⟨j,B'⟩:=x
  unfold rd at h
  split at h
  ·rename_i e;subst e;cases h;exact List.mem_cons_self
  ·exact List.mem_cons_of_mem _ (ih h)
def rm (m:bL) (i:Nat):bL:=
 match m with
 | []=>[]
 | (j,B) :: r=>if j=i then rm r i else (j,B) :: rm r i
theorem uV {m:bL} {i:Nat} {x:Nat × Blk} (h:x∈rm m i):x∈m∧x.1≠i:=by
 induction m with
 | nil=>simp[rm] at h
 | cons y r ih=>
  obtain⟨j,B'⟩:=y
  unfold rm at h
  split at h
  ·exact⟨List.mem_cons_of_mem _ (ih h).1,(ih h).2⟩
  ·rename_i hne
   rcases List.mem_cons.1 h with h|h
   ·subst h;exact⟨List.mem_cons_self,hne⟩
   ·exact⟨List.mem_cons_of_mem _ (ih h).1,(ih h).2⟩
def SV.cells?:SV→Option (List SV)
 | .agg l=>some l
 | v=>if v.one then some [v] else none
def aF (cs:List SV) (o:Nat) (l:List SV):List SV:=cs.take o++l++cs.drop (o+l.length)
def rY (fr:Fr):List SV→List (Nat × Nat × Opd)→(List SV→Prop)→Prop
 | cs,[],F=>F cs
 | cs,(off,size,x) :: r,F=>∃ l,(x.ev fr).cells?=some l∧l.length=size∧off+size≤cs.length∧rY fr (aF cs off l) r F
def dL (op:BinOp) (k:IntKind) (x y:Int):Int:=
 let a:=BitVec.ofInt k.bits x
 let b:=BitVec.ofInt k.bits y
 k.wrap (match op with
  | .and=>(a &&& b).toNat
  | .or=>(a ||| b).toNat
  | .xor=>(a ^^^ b).toNat
  | _=>(a &&& ~~~b).toNat:Nat)
def cL (op:BinOp) (k k':IntKind) (a b:Int) (F:SV→Prop):Prop:=
 match op with
 | .shl=>0≤b∧F (.int k (k.wrap (a * 2 ^ (min b.toNat k.bits))))
 | .shr=>0≤b∧F (.int k (a.fdiv (2 ^ (min b.toNat k.bits))))
 | .add=>k=k'∧F (.int k (k.wrap (a+b)))
 | .sub=>k=k'∧F (.int k (k.wrap (a - b)))
 | .mul=>k=k'∧F (.int k (k.wrap (a * b)))
 | .quo=>k=k'∧b≠0∧F (.int k (k.wrap (a.tdiv b)))
 | .rem=>k=k'∧b≠0∧F (.int k (a.tmod b))
 | .and|.or|.xor|.andNot=>k=k'∧F (.int k (dL op k a b))
 | .eql=>k=k'∧F (.bool (a==b))
 | .neq=>k=k'∧F (.bool (a != b))
 | .lss=>k=k'∧F (.bool (decide (a < b)))
 | .leq=>k=k'∧F (.bool (decide (a≤b)))
 | .gtr=>k=k'∧F (.bool (decide (a > b)))
 | .geq=>k=k'∧F (.bool (decide (a ≥ b)))
def nX (op:BinOp) (a b:List UInt8) (F:SV→Prop):Prop:=
 match op with
 | .add=>a.length+b.length≤cH∧F (.str (a++b))
 | .eql=>F (.bool (a==b))
 | .neq=>F (.bool (!(a==b)))
 | .lss=>F (.bool (Op.bytesLess a b))
 | .leq=>F (.bool (Op.bytesLess a b || a==b))
 | .gtr=>F (.bool (!(Op.bytesLess a b || a==b)))
 | .geq=>F (.bool (!(Op.bytesLess a b)))
 | _=>False
def Gu (op:BinOp) (x y:SV) (F:SV→Prop):Prop:=
 match x,y with
 | .int k a,.int k' b=>cL op k k' a b F
 | .str a,.str b=>nX op a b F
 | _,_=>False
def nD:Tag→SV→SV→Option Bool
 | .i k,.int k1 a,.int k2 c=>if k1=k∧k2=k then some (a==c) else none
 | .b,.bool a,.bool c=>some (a==c)
 | .s,.str a,.str c=>some (a==c)
 | _,_,_=>none
def eF:List Tag→List SV→List SV→Option Bool
 | [],[],[]=>some true
 | p :: ps,a :: l,c :: m=>match nD p a c,eF ps l m with
  | some x,some y=>some (x && y)
  | _,_=>none
 | _,_,_=>none
def iF (v:SV) (F:Int→Prop):Prop:=
 match v with
 | .int _ n=>F n
 | _=>False
def nZ (v:SV) (F:Bool→Prop):Prop:=
 match v with
 | .bool b=>F b
 | _=>False
def iK (fr:Fr) (x:Option Opd) (d:Int) (F:Int→Prop):Prop:=
 match x with
 | none=>F d
 | some o=>iF (o.ev fr) F
def Gv:SV→Bool
 | .int .u8 _=>true
 | _=>false
def byteOf:SV→UInt8
 | .int _ n=>UInt8.ofNat n.toNat
 | _=>0
def SV.byte (c:UInt8):SV:=.int .u8 (c.toNat:Int)
def mH:SV→Bool
 | .int .u8 n=>decide (0≤n∧n < 256)
 | _=>false
def EF:Option Nat→SV→Option KV
 | none,.str s=>if s.length≤cH then some (.str s) else none
 | some n,.agg l=>if l.length=n∧l.all mH=true then some (.arr (l.map byteOf)) else none
 | _,_=>none
def Bo (ks:List KV) (k:KV):List KV:=if k∈ks then ks else ks++[k]
def mI (m:bL) (i:Nat):Option (Option Nat × List KV):=
 match rd m i with
 | some ⟨.map a ks,_⟩=>some (a,ks)
 | _=>none
def vS (m:bL) (s:Nat) (v:SV) (F:Nat→List SV→Prop):Prop:=
 match v with
 | .slc i o s' len _=>s'=s∧∃ B,rd m i=some B∧o+len * s≤B.cells.length∧F len ((B.cells.drop o).take (len * s))
 | .val (.slice none 0 0)=>F 0 []
 | .val (.slice (some _) 0 _)=>F 0 []
 | _=>False
def vT (m:bL) (s:Nat) (v:SV) (F:Nat→List SV→Prop):Prop:=
 match v with
 | .str t=>s=1∧F t.length (t.map SV.byte)
 | v=>vS m s v F
def Mr (n:Nat) (z:List SV):List SV:=(List.range (n * z.length)).map fun j=>z.getD (j % z.length) .any
abbrev Kt:=SV→bL→Nat→Prop
abbrev bG:=FuncId→List SV→bL→Nat→Kt→Prop
def dP (T:List (Nat × List SV)) (call:bG) (fr:Fr) (m:bL) (n:Nat) (K:Kt):SOp→Prop
 | .mv x=>K (x.ev fr) m n
 | .pick c a b=>nZ (c.ev fr) fun t=>(t=true→K (a.ev fr) m n)∧(t=false→K (b.ev fr) m n)
 | .new e z=>K (.ptr n 0) ((n,⟨.own e,z⟩) :: m) (n+1)
 | .box e x=>∃ l,(x.ev fr).cells?=some l∧K (.ptr n 0) ((n,⟨.own e,l⟩) :: m) (n+1)
 | .build z parts=>rY fr z parts fun cs=>K (.agg cs) m n
 | .bslice e s k z parts=>rY fr z parts fun cs=>K (.slc n 0 s k none) ((n,⟨.own e,cs⟩) :: m) (n+1)
 | .load agg x=>
  match x.ev fr with
  | .ptr i o=>∃ B,rd m i=some B ∧
   match agg with
   | none=>∃ v,B.cells[o]?=some v∧K v m n
   | some k=>o+k≤B.cells.length∧K (.agg ((B.cells.drop o).take k)) m n
  | .gp g o=>∃ cs,(g,cs)∈T ∧
   match agg with
   | none=>∃ v,cs[o]?=some v∧K v m n
   | some k=>o+k≤cs.length∧K (.agg ((cs.drop o).take k)) m n
  | _=>False
 | .store k a x=>
  match a.ev fr with
  | .ptr i o=>∃ B e l,rd m i=some B∧B.kind=.own e∧(x.ev fr).cells?=some l∧l.length=k∧o+k≤B.cells.length ∧
    K .any (bC m i ⟨.own e,aF B.cells o l⟩) n
  | _=>False
 | .nilc x=>
  match x.ev fr with
  | .ptr i o=>K (.ptr i o) m n
  | .gp g o=>K (.gp g o) m n
  | .fn f a b=>K (.fn f a b) m n
  | _=>False
 | .fld x off=>
  match x.ev fr with
  | .ptr i o=>K (.ptr i (o+off)) m n
  | .gp g o=>K (.gp g (o+off)) m n
  | _=>False
 | .idxA x i len s=>
  iF (i.ev fr) fun ix=>0≤ix∧ix < len ∧
  match x.ev fr with
  | .ptr b o=>K (.ptr b (o+ix.toNat * s)) m n
  | .gp b o=>K (.gp b (o+ix.toNat * s)) m n
  | _=>False
 | .idxS x i s=>
  iF (i.ev fr) fun ix=>
  match x.ev fr with
  | .slc b o s' len _=>s'=s∧0≤ix∧ix < len∧∃ B,rd m b=some B∧o+ix.toNat * s < B.cells.length∧K (.ptr b (o+ix.toNat * s)) m n
  | _=>False
 | .idxV x i len s agg=>
  iF (i.ev fr) fun ix=>0≤ix∧ix < len ∧
  match x.ev fr with
  | .agg l=>match agg with
   | true=>K (.agg ((l.drop (ix.toNat * s)).take s)) m n
   | false=>∃ v,l[ix.toNat * s]?=some v∧K v m n
  | _=>False
 | .idxT x i=>
  iF (i.ev fr) fun ix=>0≤ix ∧
  match x.ev fr with
  | .str t=>∃ c,t[ix.toNat]?=some c∧K (SV.byte c) m n
  | _=>False
 | .fieldV x off agg=>
  match x.ev fr with
  | .agg l=>match agg with
   | some k=>K (.agg ((l.drop off).take k)) m n
   | none=>∃ v,l[off]?=some v∧K v m n
  | _=>False
 | .bin op x y=>Gu op (x.ev fr) (y.ev fr) fun v=>K v m n
 | .eqv neg pat x y=>
  match x.ev fr,y.ev fr with
  | .agg l,.agg l'=>∃ b,eF pat l l'=some b∧K (.bool (if neg then !b else b)) m n
  | _,_=>False
 | .eqb neg x y=>
  match x.ev fr,y.ev fr with
  | .bool a,.bool c=>K (.bool (if neg then !(a==c) else a==c)) m n
  | _,_=>False
 | .isNil neg x=>
  match x.ev fr with
  | .val (.slice none 0 0)=>K (.bool (!neg)) m n
  | .val (.slice (some _) _ _)=>K (.bool neg) m n
  | .slc b o _ _ _=>(∃ B,rd m b=some B∧o < B.cells.length)∧K (.bool neg) m n
  | _=>False
 | .un op x=>
  match op,x.ev fr with
  | .not,.bool b=>K (.bool (!b)) m n
  | .neg,.int k a=>K (.int k (k.wrap (0 - a))) m n
  | .xor,.int k a=>K (.int k (dL .xor k (if k.signed then -1 else k.max) a)) m n
  | _,_=>False
 | .conv k x=>
  match x.ev fr with
  | .int _ a=>K (.int k (k.wrap a)) m n
  | _=>False
 | .strS x=>
  match x.ev fr with
  | .str t=>K (.str t) m n
  | _=>False
 | .b2s x=>vS m 1 (x.ev fr) fun _ l=>l.all Gv=true∧K (.str (l.map byteOf)) m n
 | .s2b e x=>
  match x.ev fr with
  | .str t=>K (.slc n 0 1 t.length none) ((n,⟨.own e,t.map SV.byte⟩) :: m) (n+1)
  | _=>False
 | .mkfn f first cap=>K (.fn f (first.map (·.ev fr)) (cap.map (·.ev fr))) m n
 | .mksl e s bytes z l c=>
  iF (l.ev fr) fun ln=>iF (c.ev fr) fun cp=>0≤ln∧ln≤cp∧cp * bytes≤2 ^ 40∧cp≤2 ^ 40 ∧
   K (.slc n 0 s ln.toNat none) ((n,⟨.own e,Mr cp.toNat z⟩) :: m) (n+1)
 | .slcS s x lo hi=>
  match x.ev fr with
  | .slc b o s' len cap=>
   s'=s∧(match cap with
    | none=>∃ B,rd m b=some B∧o+len * s≤B.cells.length
    | some c=>len≤c) ∧
   iK fr lo 0 fun l=>iK fr hi len fun h=>0≤l∧l≤h∧h≤len ∧
    K (.slc b (o+l.toNat * s) s (h.toNat - l.toNat) (cap.map (· - l.toNat))) m n
  | .val (.slice none 0 0)=>iK fr lo 0 fun l=>iK fr hi 0 fun h=>l=0∧h=0∧K (.val (.slice none 0 0)) m n
  | _=>False
 | .slcA k s x lo hi=>
  match x.ev fr with
  | .ptr b o=>iK fr lo 0 fun l=>iK fr hi k fun h=>0≤l∧l≤h∧h≤k ∧
    K (.slc b (o+l.toNat * s) s (h.toNat - l.toNat) (some (k - l.toNat))) m n
  | _=>False
 | .slcT x lo hi=>
  match x.ev fr with
  | .str t=>iK fr lo 0 fun l=>iK fr hi t.length fun h=>0≤l∧l≤h∧h≤t.length ∧
    K (.str ((t.drop l.toNat).take (h.toNat - l.toNat))) m n
  | _=>False
 | .arrAt k x=>
  match x.ev fr with
  | .slc b o _ len _=>0 < k∧k≤len∧(∃ B,rd m b=some B∧o < B.cells.length)∧K (.ptr b o) m n
  | _=>False
 | .ext x i=>
  match x.ev fr with
  | .tup l=>∃ v,l[i]?=some v∧K v m n
  | _=>False
 | .call f args=>call f (args.map (·.ev fr)) m n K
 | .callp f args=>SV.flatL (args.map (·.ev fr))=true∧call f (args.map (·.ev fr)) [] 0 fun v m' n'=>m'=[]∧n'=0∧v.flat=true∧K v m n
 | .callv x args=>
  match x.ev fr with
  | .fn f first cap=>call f (first++args.map (·.ev fr)++cap) m n K
  | _=>False
 | .len isStr x=>
  match isStr,x.ev fr with
  | true,.str t=>K (.int .i64 t.length) m n
  | false,.slc _ _ _ l _=>K (.int .i64 l) m n
  | false,.val (.slice none 0 0)=>K (.int .i64 0) m n
  | _,_=>False
 | .lenA k=>K (.int .i64 k) m n
 | .app e s bytes x y=>
  vT m s (y.ev fr) fun k l=>
  match x.ev fr with
  | .slc i o s' len cap=>s'=s∧o=0∧cap=none∧(len+k) * bytes≤2 ^ 40∧bytes≤2 ^ 20∧∃ B,rd m i=some B∧B.kind=.own e∧len * s≤B.cells.length ∧
    K (.slc n 0 s (len+k) none) ((n,⟨.own e,B.cells.take (len * s)++l⟩) :: rm m i) (n+1)
  | .val (.slice none 0 0)=>k * bytes≤2 ^ 40∧bytes≤2 ^ 20∧K (.slc n 0 s k none) ((n,⟨.own e,l⟩) :: m) (n+1)
  | _=>False
 | .copy s x y=>
  vT m s (y.ev fr) fun k l=>
  match x.ev fr with
  | .slc i o s' len _=>s'=s∧∃ B e,rd m i=some B∧B.kind=.own e∧o+len * s≤B.cells.length ∧
    K (.int .i64 (min k len:Nat)) (bC m i ⟨.own e,aF B.cells o (l.take (min k len * s))⟩) n
  | _=>False
 | .mkmap a=>K (.mp n) ((n,⟨.map a [],[]⟩) :: m) (n+1)
 | .mput a x key=>
  match x.ev fr with
  | .mp i=>∃ ks kv,mI m i=some (a,ks)∧EF a (key.ev fr)=some kv∧K .any (bC m i ⟨.map a (Bo ks kv),[]⟩) n
  | _=>False
 | .mlen x=>
  match x.ev fr with
  | .mp i=>∃ a ks,mI m i=some (a,ks)∧K (.int .i64 ks.length) m n
  | _=>False
 | .mk8 x=>
  match x.ev fr with
  | .slc i o s len cap=>0 < len∧∃ B e,rd m i=some B∧B.kind=.own e∧0 < B.cells.length∧K (.slc i o s len cap) (bC m i ⟨.own e,B.cells⟩) n
  | _=>False
 | .capN x=>
  match x.ev fr with
  | .val (.slice none 0 0)=>K (.int .i64 0) m n
  | _=>False
 | .pcmp neg x y=>
  match x.ev fr,y.ev fr with
  | .val (.pointer none),.val (.pointer none)=>K (.bool (!neg)) m n
  | .ptr _ _,.val (.pointer none)=>K (.bool neg) m n
  | .ptr i o,.ptr j o'=>i=j∧o=o'∧K (.bool (!neg)) m n
  | _,_=>False
 | .cvp e k x=>
  match x.ev fr with
  | .ptr i o=>match rd m i with
   | some ⟨.own e',cells⟩=>e'=e∧o=0∧cells.length=k∧K (.ptr i o) m n
   | _=>False
  | _=>False
 | .noesc _ x=>K (x.ev fr) m n
 | .sdat s x=>
  match x.ev fr with
  | .slc i o s' _ none=>match rd m i with
   | some B=>s'=s∧o+s≤B.cells.length∧K (.ptr i o) m n
   | none=>False
  | _=>False
 | .ustr e x y=>
  match x.ev fr,y.ev fr with
  | .ptr i o,.int .i64 l=>match rd m i with
   | some ⟨.own e',cells⟩=>e'=e∧o=0∧0 < l∧l≤9223372036854775807∧l.toNat≤cells.length∧(cells.take l.toNat).all mH=true∧K (.str ((cells.take l.toNat).map byteOf)) (bC m i ⟨.view,cells⟩) n
   | _=>False
  | _,_=>False
 | .appZ e s bytes z x k=>
  iF (k.ev fr) fun k=>
  match x.ev fr with
  | .val (.slice none 0 0)=>0 < k∧k * bytes≤2 ^ 40∧bytes≤2 ^ 20∧K (.slc n 0 s k.toNat none) ((n,⟨.own e,Mr k.toNat z⟩) :: m) (n+1)
  | _=>False
 | .mx x y=>
  match x.ev fr,y.ev fr with
  | .int k a,.int _ b=>K (.int k (if b > a then b else a)) m n
  | _,_=>False
 | .mn x y=>
  match x.ev fr,y.ev fr with
  | .int k a,.int _ b=>K (.int k (if b < a then b else a)) m n
  | _,_=>False
def Gw (b:Nat) (B:Blk) (K:Kt):Kt:=fun v m n=>rd m b=some B∧K v (rm m b) n
def rZ (κ:Option (Nat × Blk)) (c:bG):bG:=match κ with
 | none=>c
 | some (b,B)=>fun f args m n K=>match rd m b with
  | none=>c f args m n K
  | some _=>c f args ((b,B) :: rm m b) n (Gw b B K)
def C8 (b:Nat) (B:Blk):bL→Prop
 | []=>True
 | (i,B') :: r=>(i=b→B'=B)∧C8 b B r
structure Opr where
 dst:Option Nat
 op:SOp
 guard:Option (Nat × Bool)
 kill:List Nat
 pre:List Nat:=[]
 hide:List Nat:=[]
inductive SC where
 | skip
 | reg (ops:List Opr)
 | regD (k:Nat) (ops:List Opr)
 | regK (t k:Nat) (ops:List Opr)
 | regP (k:Nat) (ops:List Opr)
 | regW (k:Nat) (ops:List Opr)
 | bad
 | seq (a b:SC)
 | cond (x:Opd) (a b:SC)
 | block (id:Nat) (c:SC)
 | loop (c:SC)
 | exit (id:Nat)
 | ret
inductive SX where
 | normal
 | exit (id:Nat)
 | ret
abbrev iY:=SX→Fr→bL→Nat→Prop
def bQ (fr:Fr) (d:Option Nat) (v:SV):Fr:=
 match d with
 | some d=>put fr d v
 | none=>fr
def z6 (T:List (Nat × List SV)) (call:bG):List Opr→Fr→bL→Nat→(Fr→bL→Nat→Prop)→Prop
 | [],fr,m,n,K=>K fr m n
 | o :: r,fr,m,n,K=>
  match o.guard with
  | none=>dP T call fr m n (fun v m' n'=>z6 T call r (aU (bQ fr o.dst v) o.kill) m' n' K) o.op
  | some (g,b)=>
   match get fr g with
   | .bool t=>(t=b→dP T call fr m n (fun v m' n'=>z6 T call r (aU (bQ fr o.dst v) o.kill) m' n' K) o.op) ∧
    (t=!b→z6 T call r (aU (bQ fr o.dst (.val undef)) o.kill) m n K)
   | .val (.tuple _)=>z6 T call r (aU (bQ fr o.dst (.val undef)) o.kill) m n K
   | _=>False
structure Dn where
 dst:Option Nat
 v:SV
 new:bL
 lo:Nat
 hi:Nat
def eD:bL→bL
 | []=>[]
 | (i,B) :: r=>(i,⟨.view,B.cells⟩) :: eD r
def dW (n:Nat):bL→bL
 | []=>[]
 | (i,B) :: r=>match B.kind with
  | .own e=>if n≤i then (i,⟨.own e,B.cells⟩) :: dW n r else dW n r
  | _=>dW n r
def bM (done:List Dn):List Nat→List Dn
 | []=>[]
 | j :: r=>match done[j]? with
  | some d=>d :: bM done r
  | none=>bM done r
def iZ:List Dn→Fr→Fr
 | [],fr=>fr
 | d :: r,fr=>bQ (iZ r fr) d.dst d.v
def fH:List Dn→bL→bL
 | [],m=>m
 | d :: r,m=>d.new++fH r m
def jJ:List Opr→List Nat
 | []=>[]
 | o :: r=>o.kill++jJ r
def EH (T:List (Nat × List SV)) (call:bG) (fr0:Fr) (m0:bL):List Opr→List Dn→Nat→(List Dn→Nat→Prop)→Prop
 | [],done,n,K=>K done n
 | o :: r,done,n,K=>
  match o.guard with
  | none=>dP T call (iZ (bM done o.pre) (aU fr0 o.hide)) (eD (fH (bM done o.pre) m0)) n (fun v m' n'=>n≤n'∧EH T call fr0 m0 r (done++[⟨o.dst,v,dW n m',n,n'⟩]) n' K) o.op
  | some (g,b)=>
   match get (iZ (bM done o.pre) (aU fr0 o.hide)) g with
   | .bool t=>(t=b→dP T call (iZ (bM done o.pre) (aU fr0 o.hide)) (eD (fH (bM done o.pre) m0)) n (fun v m' n'=>n≤n'∧EH T call fr0 m0 r (done++[⟨o.dst,v,dW n m',n,n'⟩]) n' K) o.op) ∧
    (t=!b→EH T call fr0 m0 r (done++[⟨o.dst,.val undef,[],n,n⟩]) n K)
   | .val (.tuple _)=>EH T call fr0 m0 r (done++[⟨o.dst,.val undef,[],n,n⟩]) n K
   | _=>False
structure CtxOk (C:Ctx):Prop where
 tab:wA C.T C.w0
 nwr:∀ g cs,(g,cs)∈C.T→¬ C.wr g
structure Rel (C:Ctx) (N:Nat) (ρ:dO) (fr:Fr) (m:bL) (n:Nat) (a:Act) (w:World):Prop where
 fr:∀ d v,(d,v)∈fr→∃ x,a.tmps[d]?=some x∧v.is ρ x
 mem:MemOk C ρ m n w
 defers:a.defers=[]
 size:a.tmps.size=N
 n0:C.n0≤n
def m8 (C:Ctx) (ρ:dO) (K:Kt) (x:Value) (w:World):Prop:=
 ∃ ρ' v m n,ρ.le ρ'∧K v m n∧v.is ρ' x∧MemOk C ρ' m n w∧C.n0≤n
def y8 (C:Ctx) (ρ:dO) (K:Kt):Result Next→Prop
 | .ok (.value x) w=>m8 C ρ K x w
 | .ok .skip w=>m8 C ρ K undef w
 | .ok (.enter f args) w=>Calls C.P f args w fun e w'=>∃ x,e=.returned x∧m8 C ρ K x w'
 | _=>False
theorem F3 {fr:Fr} {d:Nat}:get fr d=.any∨(d,get fr d)∈fr:=by
 induction fr with
 | nil=>exact .inl rfl
 | cons y r ih=>
  obtain⟨e,v⟩:=y
  unfold get
  split
  ·rename_i h;subst h;exact .inr List.mem_cons_self
  ·exact ih.imp id (List.mem_cons_of_mem _)
def KC:SV→Value→Bool
 | .int k n,.int k' n'=>k==k' && n==n'
 | .bool b,.bool b'=>b==b'
 | .str s,.string t=>s==t.data.toList
 | .val (.slice none 0 0),.slice none 0 0=>true
 | .val (.pointer none),.pointer none=>true
 | .val .nilFunc,.nilFunc=>true
 | .val .nilIface,.nilIface=>true
 | .val (.map none),.map none=>true
 | _,_=>false
theorem Gx {v:SV} {x:Value} (h:KC v x=true) (ρ:dO):v.is ρ x:=by
 unfold KC at h
 split at h
 ·simp at h;obtain⟨rfl,rfl⟩:=h;simp[SV.is]
 ·simp at h;subst h;simp[SV.is]
 ·rename_i s t;simp at h;subst h;simp[SV.is]
 all_goals first|(simp[SV.is];done)|cases h
def aZ:Operand→Opd→Bool
 | .tmp t,.t n=>t==n
 | .const x,.c v=>KC v x
 | .global g,.g n=>g==n
 | .func f,.f g=>f==g
 | _,_=>false
section
variable {C:Ctx} {N:Nat} {ρ:dO} {fr:Fr} {m:bL} {n:Nat} {a:Act} {w:World} {K:Kt}
theorem cU (R:Rel C N ρ fr m n a w) {o:Operand} {x:Opd} (h:aZ o x=true):(x.ev fr).is ρ (a.eval o):=by
 cases o <;> cases x <;> simp only[aZ] at h
 case tmp.t t d=>
  simp at h;subst h
  simp only[Opd.ev,Act.eval]
  rcases F3 (fr:=fr) (d:=t) with e|e
  ·rw[e];trivial
  ·obtain⟨x,h1,h2⟩:=R.fr _ _ e
   have e2:a.tmps.getD t undef=x:=by rw[Array.getD_eq_getD_getElem?,h1];rfl
   rw[e2];exact h2
 case const.c x v=>exact Gx h ρ
 case global.g=>simp at h;subst h;simp[Opd.ev,Act.eval,SV.is]
 case func.f=>simp at h;subst h;simp[Opd.ev,Act.eval,SV.is,SV.isL]
 all_goals exact Bool.noConfusion h
theorem bE (R:Rel C N ρ fr m n a w) {v:SV} {x:Value} (hK:K v m n) (hv:v.is ρ x):m8 C ρ K x w:=
 ⟨ρ,v,m,n,dO.le_refl _,hK,hv,R.mem,R.n0⟩
theorem Addr.add_mk (b o j:Nat):(⟨b,o,none⟩:Addr).add j=⟨b,o+j,none⟩:=by
 unfold Addr.add;split
 ·rename_i h;subst h;rfl
 ·rfl
theorem tT (R:MemOk C ρ m n w) {i:Nat} {B:Blk} (h:rd m i=some B) {L:Loc} (hL:ρ i=some L) {b:Nat} (hb:L.blk=some b) :
  B.cellsOk ρ w b L.st:=by
 obtain⟨L',h1,h2⟩:=R.blk i B (fM h)
 rw[hL] at h1;cases h1
 unfold Blk.okAt at h2;rw[hb] at h2;exact h2.2.1
theorem C9 (R:MemOk C ρ m n w) {i:Nat} {B:Blk} (h:rd m i=some B) {o:Nat} (ho:o < B.cells.length) :
  ∃ L b,ρ i=some L∧L.blk=some b:=by
 obtain⟨L,h1,h2⟩:=R.blk i B (fM h)
 cases hb:L.blk with
 | some b=>exact⟨L,b,h1,hb⟩
 | none=>unfold Blk.okAt at h2;rw[hb] at h2;rw[h2.1] at ho;simp at ho
def gX (P:Program) (t:TypeId):Option (Option Nat):=
 match P.underlying t with
 | some (.struct _)|some (.array _ _)=>(P.info? t).map fun i=>some i.size
 | some _=>some none
 | none=>none
theorem xS {P:Program} {t:TypeId} {g:Option Nat} (h:gX P t=some g) (w:World):(isAgg t).run P w=.ok g.isSome w:=by
 unfold gX at h
 unfold isAgg underlying
 cases hu:P.underlying t with
 | none=>simp[hu] at h
 | some d=>
  cases d <;> simp[hu] at h ⊢ <;> first|(subst h;rfl)|(obtain⟨i,_,rfl⟩:=h;rfl)
theorem cD {P:Program} {t:TypeId} {k:Nat} (h:(P.info? t).map (·.size)=some k) (w:World):(sizeOf t).run P w=.ok k w:=by
 unfold sizeOf typeInfo
 cases hi:P.info? t with
 | none=>simp[hi] at h
 | some i=>simp[hi] at h ⊢;exact h
theorem Ca {P:Program} {t:TypeId} {k:Nat} (h:gX P t=some (some k)):(P.info? t).map (·.size)=some k:=by
 unfold gX at h
 cases hu:P.underlying t with
 | none=>simp[hu] at h
 | some d=>cases d <;> simp[hu] at h <;> (obtain⟨i,hi,rfl⟩:=h;simp[hi])
theorem y9 {cells:List SV} {b st:Nat} (h:∀ (j:Nat) v,cells[j]?=some v→∃ x,w.cell? ⟨b,st+j,none⟩=some x∧v.is ρ x∧x.oneCell'=true)
  (o k:Nat) (hk:o+k≤cells.length) :
  ∃ xs:List Value,xs.length=k∧SV.isL ρ ((cells.drop o).take k) xs∧(∀ y∈xs,y.oneCell'=true)∧(∀ (j:Nat) v,xs[j]?=some v→w.cell? ⟨b,st+o+j,none⟩=some v):=by
 induction k generalizing o with
 | zero=>exact⟨[],rfl,by simp[SV.isL],by simp,by simp⟩
 | succ k ih=>
  obtain⟨xs,h1,h2,h3,h4⟩:=ih (o+1) (by omega)
  have ho:o < cells.length:=by omega
  obtain⟨x,e1,e2,e3⟩:=h o cells[o] (List.getElem?_eq_getElem ho)
  refine⟨x :: xs,by simp[h1],?_,?_,?_⟩
  ·rw[List.drop_eq_getElem_cons ho,List.take_succ_cons]
   simp only[SV.isL]
   exact⟨x,xs,rfl,e2,h2⟩
  ·intro y hy
   rcases List.mem_cons.1 hy with rfl|hy
   ·exact e3
   ·exact h3 y hy
  ·intro j v hj
   cases j with
   | zero=>simp at hj;subst hj;simpa using e1
   | succ j=>
    have:=h4 j v (by simpa using hj)
    rw[show st+o+(j+1)=st+(o+1)+j by omega];exact this
theorem tU {P:Program} {t:TypeId} (h:gX P t=some none) {A:Addr} {x:Value} (hx:w.cell? A=some x) :
  (loadVar t A).run P w=.ok x w:=by
 unfold loadVar;simp[xS h,hx]
theorem sD {P:Program} {t:TypeId} {k:Nat} (h:gX P t=some (some k)) {A:Addr} {xs:List Value} (hk:xs.length=k)
  (hx:∀ (j:Nat) v,xs[j]?=some v→w.cell? (A.add j)=some v):(loadVar t A).run P w=.ok (.agg xs.toArray) w:=by
 unfold loadVar;simp[xS h,cD (Ca h)]
 rw[← hk,run_loadCells_list (P:=P) w A xs hx];rfl
theorem Lp (X:CtxOk C) (R:MemOk C ρ m n w) {g:Nat} {cs:List SV} (h:(g,cs)∈C.T) :
  ∀ (j:Nat) v,cs[j]?=some v→∃ x,w.cell? ⟨g,0+j,none⟩=some x∧v.is ρ x∧x.oneCell'=true:=by
 intro j v hj
 obtain⟨h1,h2⟩:=X.tab g cs h
 obtain⟨x,e1,e2,e3⟩:=h2 j v hj
 refine⟨x,?_,SV.is_mono (fun i L h=>by cases h) v x e2,e3⟩
 rw[Nat.zero_add,fU (R.frame g h1 (X.nwr g cs h))];exact e1
theorem KD (X:CtxOk C) (R:Rel C N ρ fr m n a w) {t:TypeId} {g:Option Nat} {o:Operand} {x:Opd}
  (h1:aZ o x=true) (h2:gX C.P t=some g) {T call} (hT:T=C.T) (hk:dP T call fr m n K (.load g x)) :
  ∃ y,(Instr.loadAt t (a.eval o)).run C.P w=.ok y w∧m8 C ρ K y w:=by
 have hv:=cU R h1
 subst hT
 simp only[dP] at hk
 split at hk
 ·rename_i i off he
  rw[he] at hv
  obtain⟨L,b,e1,e2,e3⟩:=by simpa only [SV.is] using hv
  obtain⟨B,hB,hk⟩:=hk
  have hc:=tT R.mem hB e1 e2
  rw[e3]
  cases g with
  | none=>
   obtain⟨v,hv',hK⟩:=hk
   obtain⟨y,f1,f2,f3⟩:=hc off v hv'
   exact⟨y,by simp[Instr.loadAt,Instr.sureAddr,tU h2 f1],bE R hK f2⟩
  | some k=>
   obtain⟨hlen,hK⟩:=hk
   obtain⟨xs,f1,f2,f3,f4⟩:=y9 hc off k hlen
   refine⟨.agg xs.toArray,?_,bE R hK ?_⟩
   ·simp only[Instr.loadAt,Instr.sureAddr,Sem.run_bind,Sem.run_pure,Result.andThen_ok]
    exact sD h2 f1 (fun j v hj=>by rw[Addr.add_mk];exact f4 j v hj)
   ·simp only[SV.is];exact⟨xs,f2,f3,rfl⟩
 ·rename_i i off he
  rw[he] at hv
  have e3:=by simpa only [SV.is] using hv
  obtain⟨cs,hB,hk⟩:=hk
  have hc:=Lp (ρ:=ρ) X R.mem hB
  rw[e3]
  cases g with
  | none=>
   obtain⟨v,hv',hK⟩:=hk
   obtain⟨y,f1,f2,f3⟩:=hc off v hv'
   rw[Nat.zero_add] at f1
   exact⟨y,by simp[Instr.loadAt,Instr.sureAddr,tU h2 f1],bE R hK f2⟩
  | some k=>
   obtain⟨hlen,hK⟩:=hk
   obtain⟨xs,f1,f2,f3,f4⟩:=y9 hc off k hlen
   refine⟨.agg xs.toArray,?_,bE R hK ?_⟩
   ·simp only[Instr.loadAt,Instr.sureAddr,Sem.run_bind,Sem.run_pure,Result.andThen_ok]
    exact sD h2 f1 (fun j v hj=>by rw[Addr.add_mk];have:=f4 j v hj;rwa [Nat.zero_add] at this)
   ·simp only[SV.is];exact⟨xs,f2,f3,rfl⟩
 ·exact hk.elim
theorem Am {v:SV} {l:List SV} (h:v.cells?=some l) {x:Value} (hv:v.is ρ x) :
  SV.isL ρ l x.cells.toList∧∀ y∈x.cells.toList,y.oneCell'=true:=by
 cases v with
 | agg l'=>
  simp[SV.cells?] at h;subst h
  obtain⟨xs,h1,h2,rfl⟩:=by simpa only [SV.is] using hv
  simpa [Value.cells] using ⟨h1,h2⟩
 | any=>simp[SV.cells?,SV.one] at h
 | tup=>simp[SV.cells?,SV.one] at h
 | _=>
  simp only[SV.cells?] at h
  split at h
  ·rename_i ho
   cases h
   have h1:=SV.one_is ho hv
   have hc:x.cells=#[x]:=by cases x <;> first|rfl|(simp[Value.oneCell'] at h1)
   rw[hc]
   refine⟨by simp only[SV.isL];exact⟨x,[],rfl,hv,rfl⟩,by simpa using h1⟩
  ·cases h
theorem To (R:Rel C N ρ fr m n a w) {e:TypeId} {l:List SV} {xs:List Value} (h:SV.isL ρ l xs) (h1:∀ y∈xs,y.oneCell'=true)
  {w':World} (hsd:(w'.os,w'.tape)=(w.os,w.tape)∧w'.output=w.output) (hw:w'.heap=w.heap.push (.cells xs.toArray e (0,0))) :
  MemOk C (ρ.set n ⟨some w.heap.size,0,xs.length⟩) ((n,⟨.own e,l⟩) :: m) (n+1) w'∧ρ.le (ρ.set n ⟨some w.heap.size,0,xs.length⟩):=by
 refine⟨?_,dO.le_set (R.mem.fresh _ (Nat.le_refl _))⟩
 have:=R.mem.alloc R.n0 xs.toArray e (0,0) l hw hsd (.inl rfl) (by simp[SV.isL_length h])
  (fun j v hj=>by
   obtain⟨x,e1,e2⟩:=SV.isL_get h j v hj
   exact⟨x,by simpa using e1,e2,h1 x (List.mem_of_getElem? e1)⟩)
 simpa using this
theorem CA (R:Rel C N ρ fr m n a w) {e:TypeId} {l:List SV} {xs:List Value} (h:SV.isL ρ l xs) (h1:∀ y∈xs,y.oneCell'=true)
  {w':World} (hsd:(w'.os,w'.tape)=(w.os,w.tape)∧w'.output=w.output) (hw:w'.heap=w.heap.push (.cells xs.toArray e (0,0))) {v:SV} (hK:K v ((n,⟨.own e,l⟩) :: m) (n+1)) {x:Value}
  (hx:v.is (ρ.set n ⟨some w.heap.size,0,xs.length⟩) x):m8 C ρ K x w':=
 let ⟨h2,h3⟩:=To R h h1 hsd hw
 ⟨_,v,_,_,h3,hK,hx,h2,by have:=R.n0;omega⟩
theorem iL {ρ:dO} {i:Nat} {L:Loc}:(ρ.set i L) i=some L:=by unfold dO.set;rw[if_pos rfl]
end
def iG (P:Program) (t:TypeId):Option Nat:=(P.info? t).map (·.size)
theorem bJ {P:Program} {t:TypeId} {d:TypeDesc} (h:P.underlying t=some d) (w:World):(underlying t).run P w=.ok d w:=by
 simp[underlying,h]
section
variable {C:Ctx} {N:Nat} {ρ:dO} {fr:Fr} {m:bL} {n:Nat} {a:Act} {w:World} {K:Kt} {T:List (Nat × List SV)} {call:bG}
theorem wB {P:Program} {A:Addr} {f:Field} {k:Nat} (h:iG P f.type=some k) (hk:k≠0) :
  (fieldPlace A f).run P w=.ok (A.add f.offset) w:=by
 unfold fieldPlace;simp[cD h,hk]
theorem Tp (R:Rel C N ρ fr m n a w) {s:TypeId} {fs:Array Field} {f:Nat} {fd:Field} {k:Nat} {o:Operand} {x:Opd}
  (h1:aZ o x=true) (h2:C.P.underlying s=some (.struct fs)) (h3:fs[f]?=some fd) (h4:iG C.P fd.type=some k) (h5:k≠0)
  (hk:dP T call fr m n K (.fld x fd.offset)) :
  ∃ y,(Instr.fieldAt s (a.eval o) f).run C.P w=.ok y w∧m8 C ρ K y w:=by
 have hv:=cU R h1
 simp only[dP] at hk
 split at hk
 ·rename_i i off he
  rw[he] at hv
  obtain⟨L,b,e1,e2,e3⟩:=by simpa only [SV.is] using hv
  rw[e3]
  refine⟨.pointer (some ⟨b,L.st+(off+fd.offset),none⟩),?_,bE R hk ?_⟩
  ·simp[Instr.fieldAt,bJ h2,h3,Instr.sureAddr,wB h4 h5,Addr.add_mk,Nat.add_assoc]
  ·simp only[SV.is];exact⟨L,b,e1,e2,rfl⟩
 ·rename_i i off he
  rw[he] at hv
  have e3:=by simpa only [SV.is] using hv
  rw[e3]
  refine⟨.pointer (some ⟨i,off+fd.offset,none⟩),?_,bE R hk ?_⟩
  ·simp[Instr.fieldAt,bJ h2,h3,Instr.sureAddr,wB h4 h5,Addr.add_mk]
  ·simp only[SV.is]
 ·exact hk.elim
theorem oR {v:SV} {F:Int→Prop} (h:iF v F) {x:Value} (hv:v.is ρ x):∃ k i,x=.int k i∧F i:=by
 unfold iF at h
 split at h
 ·exact⟨_,_,by simpa only [SV.is] using hv,h⟩
 ·exact h.elim
theorem EZ {v:SV} {F:Bool→Prop} (h:nZ v F) {x:Value} (hv:v.is ρ x):∃ b,x=.bool b∧F b:=by
 unfold nZ at h
 split at h
 ·exact⟨_,by simpa only [SV.is] using hv,h⟩
 ·exact h.elim
theorem Qz (R:Rel C N ρ fr m n a w) {t e:TypeId} {len s:Nat} {o oi:Operand} {x i:Opd}
  (h1:aZ o x=true) (h2:aZ oi i=true) (h3:C.P.underlying t=some (.array len e)) (h4:iG C.P e=some s)
  (hk:dP T call fr m n K (.idxA x i len s)) :
  ∃ y,(Instr.indexAt t (a.eval o) (a.eval oi)).run C.P w=.ok y w∧m8 C ρ K y w:=by
 have hv:=cU R h1
 have hi:=cU R h2
 simp only[dP] at hk
 obtain⟨k,ix,e0,h5,h6,hk⟩:=oR hk hi
 rw[e0]
 split at hk
 ·rename_i j off he
  rw[he] at hv
  obtain⟨L,b,e1,e2,e3⟩:=by simpa only [SV.is] using hv
  rw[e3]
  refine⟨.pointer (some ⟨b,L.st+(off+ix.toNat * s),none⟩),?_,bE R hk ?_⟩
  ·simp[Instr.indexAt,asIntOf,bJ h3,Instr.sureAddr,h5,h6,cD h4,Addr.add_mk,Nat.add_assoc]
  ·simp only[SV.is];exact⟨L,b,e1,e2,rfl⟩
 ·rename_i j off he
  rw[he] at hv
  have e3:=by simpa only [SV.is] using hv
  rw[e3]
  refine⟨.pointer (some ⟨j,off+ix.toNat * s,none⟩),?_,bE R hk ?_⟩
  ·simp[Instr.indexAt,asIntOf,bJ h3,Instr.sureAddr,h5,h6,cD h4,Addr.add_mk]
  ·simp only[SV.is]
 ·exact hk.elim
theorem RA (R:Rel C N ρ fr m n a w) {t e:TypeId} {s:Nat} {o oi:Operand} {x i:Opd}
  (h1:aZ o x=true) (h2:aZ oi i=true) (h3:C.P.underlying t=some (.slice e)) (h4:iG C.P e=some s)
  (hk:dP T call fr m n K (.idxS x i s)) :
  ∃ y,(Instr.indexAt t (a.eval o) (a.eval oi)).run C.P w=.ok y w∧m8 C ρ K y w:=by
 have hv:=cU R h1
 have hi:=cU R h2
 simp only[dP] at hk
 obtain⟨k,ix,e0,hk⟩:=oR hk hi
 rw[e0]
 split at hk
 ·rename_i j off s' len cap he
  obtain⟨rfl,h5,h6,B,hB,h7,hk⟩:=hk
  rw[he] at hv
  obtain⟨L,A,e1,e2,e3⟩:=by simpa only [SV.is] using hv
  obtain⟨L',b,f1,f2⟩:=C9 R.mem hB h7
  rw[e1] at f1;cases f1
  have hA:A=some ⟨b,L.st+off,none⟩:=by
   rcases e3 with e3|e3
   ·rw[e3,f2];rfl
   ·have:=e3.1;omega
  rw[e2,hA]
  refine⟨.pointer (some ⟨b,L.st+(off+ix.toNat * s'),none⟩),?_,bE R hk ?_⟩
  ·simp[Instr.indexAt,asIntOf,bJ h3,h5,h6,cD h4,Addr.add_mk,Nat.add_assoc]
  ·simp only[SV.is];exact⟨L,b,e1,f2,rfl⟩
 ·exact hk.elim
theorem yY {P:Program} {t:TypeId} (h:gX P t=some none) {cs:Array Value} {o:Nat} {x:Value} (hx:cs[o]?=some x) :
  (part t cs o).run P w=.ok x w:=by
 unfold part;simp[xS h,hx]
theorem wC {P:Program} {t:TypeId} {k:Nat} (h:gX P t=some (some k)) {cs:Array Value} {o:Nat} :
  (part t cs o).run P w=.ok (.agg (cs.extract o (o+k))) w:=by
 unfold part;simp[xS h,cD (Ca h)]
theorem wD {ρ:dO}:∀ {l:List SV} {xs:List Value} (k:Nat),SV.isL ρ l xs→SV.isL ρ (l.take k) (xs.take k)
 | [],xs,k,h=>by simp only[SV.isL] at h;subst h;simp[SV.isL]
 | v :: l,xs,0,h=>by simp[SV.isL]
 | v :: l,xs,k+1,h=>by
  simp only[SV.isL] at h
  obtain⟨y,ys,rfl,h1,h2⟩:=h
  simp only[List.take_succ_cons,SV.isL]
  exact⟨y,_,rfl,h1,wD k h2⟩
theorem z9 {ρ:dO}:∀ {l:List SV} {xs:List Value} (k:Nat),SV.isL ρ l xs→SV.isL ρ (l.drop k) (xs.drop k)
 | [],xs,k,h=>by simp only[SV.isL] at h;subst h;simp[SV.isL]
 | v :: l,xs,0,h=>by simpa using h
 | v :: l,xs,k+1,h=>by
  simp only[SV.isL] at h
  obtain⟨y,ys,rfl,h1,h2⟩:=h
  simpa using z9 k h2
theorem n8 {ρ:dO}:∀ {l l':List SV} {xs xs':List Value},SV.isL ρ l xs→SV.isL ρ l' xs'→SV.isL ρ (l++l') (xs++xs')
 | [],l',xs,xs',h,h'=>by simp only[SV.isL] at h;subst h;simpa using h'
 | v :: l,l',xs,xs',h,h'=>by
  simp only[SV.isL] at h
  obtain⟨y,ys,rfl,h1,h2⟩:=h
  simp only[List.cons_append,SV.isL]
  exact⟨y,_,rfl,h1,n8 h2 h'⟩
theorem KE (R:Rel C N ρ fr m n a w) {t:TypeId} {g:Option Nat} (h:gX C.P t=some g) {l:List SV} {xs:List Value} (hl:SV.isL ρ l xs)
  (h1:∀ y∈xs,y.oneCell'=true) {o:Nat}
  (hk:match g with|some k=>K (.agg ((l.drop o).take k)) m n|none=>∃ v,l[o]?=some v∧K v m n) :
  ∃ y,(part t xs.toArray o).run C.P w=.ok y w∧m8 C ρ K y w:=by
 cases g with
 | none=>
  obtain⟨v,hv,hK⟩:=hk
  obtain⟨x,e1,e2⟩:=SV.isL_get hl o v hv
  exact⟨x,yY h (by simpa using e1),bE R hK e2⟩
 | some k=>
  refine⟨.agg ((xs.drop o).take k).toArray,?_,bE R hk ?_⟩
  ·rw[wC h];simp
  ·simp only[SV.is]
   exact⟨_,wD k (z9 o hl),fun y hy=>h1 y (List.mem_of_mem_drop (List.mem_of_mem_take hy)),rfl⟩
theorem RB (R:Rel C N ρ fr m n a w) {t e:TypeId} {len s:Nat} {agg:Bool} {g:Option Nat} {o oi:Operand} {x i:Opd}
  (h1:aZ o x=true) (h2:aZ oi i=true) (h3:C.P.underlying t=some (.array len e)) (h4:iG C.P e=some s)
  (h5:gX C.P e=some g) (h6:g=if agg then some s else none) (hk:dP T call fr m n K (.idxV x i len s agg)) :
  ∃ y,(Instr.index t (a.eval o) (a.eval oi)).run C.P w=.ok y w∧m8 C ρ K y w:=by
 have hv:=cU R h1
 have hi:=cU R h2
 simp only[dP] at hk
 obtain⟨k,ix,e0,h7,h8,hk⟩:=oR hk hi
 rw[e0]
 split at hk
 ·rename_i l he
  rw[he] at hv
  obtain⟨xs,e1,e2,e3⟩:=by simpa only [SV.is] using hv
  rw[e3]
  obtain⟨y,f1,f2⟩:=KE R h5 e1 e2 (o:=ix.toNat * s) (by subst h6;cases agg <;> simpa using hk)
  refine⟨y,?_,f2⟩
  simp[Instr.index,asIntOf,bJ h3,h7,h8,cD h4,f1]
 ·exact hk.elim
theorem Lq (R:Rel C N ρ fr m n a w) {s:TypeId} {fs:Array Field} {f:Nat} {fd:Field} {g:Option Nat} {o:Operand} {x:Opd}
  (h1:aZ o x=true) (h2:C.P.underlying s=some (.struct fs)) (h3:fs[f]?=some fd) (h4:gX C.P fd.type=some g)
  (hk:dP T call fr m n K (.fieldV x fd.offset g)) :
  ∃ y,(Instr.field s (a.eval o) f).run C.P w=.ok y w∧m8 C ρ K y w:=by
 have hv:=cU R h1
 simp only[dP] at hk
 split at hk
 ·rename_i l he
  rw[he] at hv
  obtain⟨xs,e1,e2,e3⟩:=by simpa only [SV.is] using hv
  rw[e3]
  obtain⟨y,f1,f2⟩:=KE R h4 e1 e2 (o:=fd.offset) (by cases g <;> simpa using hk)
  exact⟨y,by simp[Instr.field,bJ h2,h3,asAgg,f1],f2⟩
 ·exact hk.elim
theorem RC (R:Rel C N ρ fr m n a w) {t:TypeId} {o oi:Operand} {x i:Opd}
  (h1:aZ o x=true) (h2:aZ oi i=true) (h3:C.P.underlying t=some .string)
  (hk:dP T call fr m n K (.idxT x i)) :
  ∃ y,(Instr.index t (a.eval o) (a.eval oi)).run C.P w=.ok y w∧m8 C ρ K y w:=by
 have hv:=cU R h1
 have hi:=cU R h2
 simp only[dP] at hk
 obtain⟨k,ix,e0,h7,hk⟩:=oR hk hi
 rw[e0]
 split at hk
 ·rename_i l he
  rw[he] at hv
  have e3:=by simpa only [SV.is] using hv
  obtain⟨c,hc,hK⟩:=hk
  rw[e3]
  refine⟨.int .u8 c.toNat,?_,bE R hK (by simp[SV.byte,SV.is])⟩
  have hlt:ix.toNat < l.length:=by
   rcases Nat.lt_or_ge ix.toNat l.length with h|h
   ·exact h
   ·rw[List.getElem?_eq_none h] at hc;cases hc
  have hg:(⟨l.toArray⟩:ByteArray)[ix.toNat]?=some c:=by
   rw[ByteArray.getElem?_lt' _ _ (by simpa [ByteArray.size] using hlt)]
   rw[List.getElem?_eq_getElem hlt] at hc;cases hc;rfl
  simp[Instr.index,asIntOf,bJ h3,h7,hg]
 ·exact hk.elim
theorem fI (op:BinOp) (t:TypeId) (x y:Operand) (u v:Value) (hu:u≠.nilIface) (hu':∀ c,u≠.agg c) :
  (eqGuard op t x y u v).run C.P w=.ok () w:=by
 unfold eqGuard
 cases op <;> simp <;> (cases u <;> simp_all)
theorem Mu {op:BinOp} {k k':IntKind} {i j:Int} {F:SV→Prop} {t:TypeId} (h:cL op k k' i j F) :
  ∃ v y,(binOp op t (.int k i) (.int k' j)).run C.P w=.ok y w∧F v∧v.is ρ y:=by
 unfold cL at h
 split at h
 case h_1=>obtain⟨h0,hF⟩:=h;exact⟨_,_,by simp[binOp,Op.shift,Int.not_lt.2 h0];rfl,hF,by simp[SV.is]⟩
 case h_2=>obtain⟨h0,hF⟩:=h;exact⟨_,_,by simp[binOp,Op.shift,Int.not_lt.2 h0];rfl,hF,by simp[SV.is]⟩
 case h_6=>obtain⟨rfl,h0,hF⟩:=h;exact⟨_,_,by simp[binOp,Op.intDiv,h0];rfl,hF,by simp[SV.is]⟩
 case h_7=>obtain⟨rfl,h0,hF⟩:=h;exact⟨_,_,by simp[binOp,Op.intDiv,h0];rfl,hF,by simp[SV.is]⟩
 case h_8=>obtain⟨rfl,hF⟩:=h;exact⟨_,.int k (dL .and k i j),by show Sem.run _ (if k≠k then _ else _) w=_;rw[if_neg (by simp)];rfl,hF,by simp only[SV.is]⟩
 case h_9=>obtain⟨rfl,hF⟩:=h;exact⟨_,.int k (dL .or k i j),by show Sem.run _ (if k≠k then _ else _) w=_;rw[if_neg (by simp)];rfl,hF,by simp only[SV.is]⟩
 case h_10=>obtain⟨rfl,hF⟩:=h;exact⟨_,.int k (dL .xor k i j),by show Sem.run _ (if k≠k then _ else _) w=_;rw[if_neg (by simp)];rfl,hF,by simp only[SV.is]⟩
 case h_11=>obtain⟨rfl,hF⟩:=h;exact⟨_,.int k (dL .andNot k i j),by show Sem.run _ (if k≠k then _ else _) w=_;rw[if_neg (by simp)];rfl,hF,by simp only[SV.is]⟩
 case h_3=>obtain⟨rfl,hF⟩:=h;exact⟨_,_,by simp[binOp,Op.intArith];rfl,hF,by simp[SV.is]⟩
 case h_4=>obtain⟨rfl,hF⟩:=h;exact⟨_,_,by simp[binOp,Op.intArith];rfl,hF,by simp[SV.is]⟩
 case h_5=>obtain⟨rfl,hF⟩:=h;exact⟨_,_,by simp[binOp,Op.intArith];rfl,hF,by simp[SV.is]⟩
 all_goals
  obtain⟨rfl,hF⟩:=h
  exact⟨_,_,by simp[binOp,Op.intCmp];rfl,hF,by simp[SV.is]⟩
theorem Tq (s t:List UInt8):(⟨s.toArray⟩:ByteArray)++⟨t.toArray⟩=⟨(s++t).toArray⟩:=by
 apply ByteArray.ext;simp
theorem Mv {op:BinOp} {s t:List UInt8} {F:SV→Prop} {ty:TypeId} (h:nX op s t F) :
  ∃ v y,(binOp op ty (.string ⟨s.toArray⟩) (.string ⟨t.toArray⟩)).run C.P w=.ok y w∧F v∧v.is ρ y:=by
 unfold nX at h
 split at h
 ·obtain⟨h0,hF⟩:=h
  refine⟨_,.string ⟨(s++t).toArray⟩,?_,hF,by simp only[SV.is]⟩
  have h1:¬ ((((⟨s.toArray⟩:ByteArray).size+(⟨t.toArray⟩:ByteArray).size:Nat):Int) > IntKind.i64.max):=by
   unfold cH at h0
   simp[ByteArray.size,IntKind.max,IntKind.signed,IntKind.bits];omega
  simp only[binOp,Op.stringOp,Sem.run_ite,if_neg h1]
  rw[Tq];rfl
 case h_8=>exact h.elim
 all_goals exact⟨_,_,by simp[binOp,Op.stringOp];rfl,h,by simp[SV.is]⟩
theorem Tr (R:Rel C N ρ fr m n a w) {op:BinOp} {t t':TypeId} {o o':Operand} {x y:Opd}
  (h1:aZ o x=true) (h2:aZ o' y=true) (hk:dP T call fr m n K (.bin op x y)) :
  ∃ z,(do eqGuard op t o o' (a.eval o) (a.eval o');binOp op t (a.eval o) (a.eval o'):Sem Value).run C.P w=.ok z w∧m8 C ρ K z w:=by
 have hv:=cU R h1
 have hi:=cU R h2
 simp only[dP] at hk
 unfold Gu at hk
 split at hk
 ·rename_i k i k' j he he'
  rw[he] at hv;rw[he'] at hi
  have e1:=by simpa only [SV.is] using hv
  have e2:=by simpa only [SV.is] using hi
  rw[e1,e2]
  obtain⟨v,z,f1,f2,f3⟩:=Mu (C:=C) (ρ:=ρ) (w:=w) (t:=t) hk
  exact⟨z,by simp[fI,f1],bE R f2 f3⟩
 ·rename_i s s' he he'
  rw[he] at hv;rw[he'] at hi
  have e1:=by simpa only [SV.is] using hv
  have e2:=by simpa only [SV.is] using hi
  rw[e1,e2]
  obtain⟨v,z,f1,f2,f3⟩:=Mv (C:=C) (ρ:=ρ) (w:=w) (ty:=t) hk
  exact⟨z,by simp[fI,f1],bE R f2 f3⟩
 ·exact hk.elim
theorem WA (R:Rel C N ρ fr m n a w) {op:UnOp} {o:Operand} {x:Opd} (h1:aZ o x=true) (hk:dP T call fr m n K (.un op x)) :
  ∃ y,(Op.unary op (a.eval o)).run C.P w=.ok y w∧m8 C ρ K y w:=by
 have hv:=cU R h1
 simp only[dP] at hk
 split at hk
 ·rename_i b he
  rw[he] at hv
  have e:=by simpa only [SV.is] using hv
  rw[e];exact⟨_,rfl,bE R hk (by simp only[SV.is])⟩
 ·rename_i k i he
  rw[he] at hv
  have e:=by simpa only [SV.is] using hv
  rw[e];exact⟨_,rfl,bE R hk (by simp only[SV.is])⟩
 ·rename_i k i he
  rw[he] at hv
  have e:=by simpa only [SV.is] using hv
  rw[e];exact⟨_,rfl,bE R hk (by simp only[SV.is,dL])⟩
 ·exact hk.elim
theorem RD (R:Rel C N ρ fr m n a w) {s d:TypeId} {u:TypeDesc} {k:IntKind} {o:Operand} {x:Opd} (h1:aZ o x=true)
  (h2:C.P.underlying s=some u) (h3:C.P.underlying d=some (.int k)) (hk:dP T call fr m n K (.conv k x)) :
  ∃ y,(convert s d (a.eval o)).run C.P w=.ok y w∧m8 C ρ K y w:=by
 have hv:=cU R h1
 simp only[dP] at hk
 split at hk
 ·rename_i k' i he
  rw[he] at hv
  have e:=by simpa only [SV.is] using hv
  rw[e]
  refine⟨.int k (k.wrap i),?_,bE R hk (by simp only[SV.is])⟩
  simp[convert,bJ h2,bJ h3,Conv.intToInt]
 ·exact hk.elim
end
theorem EJ {w:World} {b o:Nat} {cs:Array Value} {e:TypeId} {fz:Nat × Nat} (h:w.heap[b]?=some (.cells cs e fz)) (v:Value) :
  (w.setCell ⟨b,o,none⟩ v).heap[b]?=some (.cells (cs.setIfInBounds o v) e fz)∧(w.setCell ⟨b,o,none⟩ v).heap.size=w.heap.size ∧
  ∀ b',b'≠b→(w.setCell ⟨b,o,none⟩ v).heap[b']?=w.heap[b']?:=by
 refine⟨?_,?_,fun b' hb=>?_⟩
 ·simp[World.setCell,Array.getElem?_modify,h]
 ·simp[World.setCell]
 ·simp[World.setCell,Array.getElem?_modify,Ne.symm hb]
theorem qJ {P:Program} {b o:Nat} {e:TypeId} {fz:Nat × Nat}:∀ (vs:List Value) (i:Nat) (w:World) (cs:Array Value),
  w.heap[b]?=some (.cells cs e fz)→o+i+vs.length≤cs.size→(fz.1=fz.2∨cs.size≤fz.1)→(∀ y∈vs,y.oneCell'=true) →
  ∃ w' cs',(storeCells ⟨b,o,none⟩ vs i).run P w=.ok () w'∧w'.heap[b]?=some (.cells cs' e fz)∧cs'.size=cs.size ∧
   (∀ j,j < o+i→cs'[j]?=cs[j]?)∧(∀ j,o+i+vs.length≤j→cs'[j]?=cs[j]?)∧(∀ j,j < vs.length→cs'[o+i+j]?=vs[j]?) ∧
   w'.heap.size=w.heap.size∧(∀ b',b'≠b→w'.heap[b']?=w.heap[b']?)∧(w'.os,w'.tape)=(w.os,w.tape)∧w'.output=w.output
 | [],i,w,cs,h,_,_,_=>⟨w,cs,rfl,h,rfl,fun _ _=>rfl,fun _ _=>rfl,fun j hj=>by simp at hj,rfl,fun _ _=>rfl,rfl,rfl⟩
 | v :: vs,i,w,cs,h,hlen,hfz,h1=>by
  simp only[List.length_cons] at hlen
  have hlt:o+i < cs.size:=by omega
  have hc:w.cell? ⟨b,o+i,none⟩=some cs[o+i]:=by rw[gW h];exact Array.getElem?_eq_getElem hlt
  have hf:w.frozen? ⟨b,o+i,none⟩=false:=by
   obtain⟨lo,hi⟩:=fz
   unfold World.frozen?;simp only[h]
   simp at hfz ⊢;omega
  obtain⟨g1,g2,g3⟩:=EJ (o:=o+i) h v
  obtain⟨w',cs',e1,e2,e3,e4,e5,e6,e7,e8,e9⟩:=qJ (P:=P) (o:=o) vs (i+1) (w.setCell ⟨b,o+i,none⟩ v) (cs.setIfInBounds (o+i) v) g1
   (by simp;omega) (by simpa using hfz) (fun y hy=>h1 y (List.mem_cons_of_mem _ hy))
  refine⟨w',cs',?_,e2,by simpa using e3,fun j hj=>?_,fun j hj=>?_,fun j hj=>?_,by omega,fun b' hb=>by rw[e8 b' hb,g3 b' hb],e9⟩
  ·rw[storeCells]
   rw[Addr.add_mk,Sem.run_bind,run_store P w _ v _ (h1 v List.mem_cons_self),hc]
   simp only[hf,Bool.false_eq_true,if_false,Result.andThen_ok]
   exact e1
  ·rw[e4 j (by omega),Array.getElem?_setIfInBounds_ne (by omega)]
  ·simp only[List.length_cons] at hj
   rw[e5 j (by omega),Array.getElem?_setIfInBounds_ne (by omega)]
  ·cases j with
   | zero=>
    rw[e4 _ (by omega)]
    simp[hlt]
   | succ j=>
    have:=e6 j (by simpa using hj)
    rw[show o+i+(j+1)=o+(i+1)+j by omega,this];simp
section
variable {C:Ctx} {N:Nat} {ρ:dO} {fr:Fr} {m:bL} {n:Nat} {a:Act} {w:World} {K:Kt} {T:List (Nat × List SV)} {call:bG}
theorem MemOk.cap (R:MemOk C ρ m n w) {i:Nat} {B:Blk} {e:TypeId} (h:(i,B)∈m) (hk:B.kind=.own e) {L:Loc} (hL:ρ i=some L) {b:Nat} (hb:L.blk=some b) :
  L.st=0∧B.cells.length≤L.cap∧∃ cs fz,w.heap[b]?=some (.cells cs e fz)∧cs.size=L.cap∧(fz.1=fz.2∨cs.size≤fz.1):=by
 obtain⟨L',h1,h2⟩:=R.blk i B h
 rw[hL] at h1;cases h1
 unfold Blk.okAt at h2;rw[hb] at h2;simp only[hk] at h2
 exact h2.2.2
theorem E3 (R:MemOk C ρ m n w) {i:Nat} {B:Blk} {e:TypeId} (hB:(i,B)∈m) (hk:B.kind=.own e) {L:Loc} (hL:ρ i=some L) {b:Nat} (hb:L.blk=some b)
  {l:List SV} {xs:List Value} (hl:SV.isL ρ l xs) (h1:∀ y∈xs,y.oneCell'=true) {o:Nat} (ho:o+l.length≤B.cells.length) (P:Program) :
  ∃ w',(storeCells ⟨b,o,none⟩ xs).run P w=.ok () w'∧MemOk C ρ (bC m i ⟨.own e,aF B.cells o l⟩) n w':=by
 obtain⟨hst,hcap,cs,fz,hh,hsz,hfz⟩:=R.cap hB hk hL hb
 have hxl:=SV.isL_length hl
 obtain⟨w',cs',e1,e2,e3,e4,e5,e6,e7,e8,e9⟩:=qJ (P:=P) (o:=o) xs 0 w cs hh (by omega) hfz h1
 have hc:B.cellsOk ρ w b 0:=by
  obtain⟨L',h1',h2'⟩:=R.blk i B hB
  rw[hL] at h1';cases h1'
  unfold Blk.okAt at h2';rw[hb,hst] at h2';exact h2'.2.1
 refine⟨w',e1,R.write hB hk hL hb cs' fz _ e2 e7 e9 e8 (by omega) (by rw[e3];exact hfz) ?_ ?_⟩
 ·simp[aF];omega
 ·intro j v hj
  unfold aF at hj
  by_cases hjo:j < o
  ·rw[List.append_assoc,List.getElem?_append_left (by simp;omega),List.getElem?_take_of_lt hjo] at hj
   obtain⟨x,f1,f2,f3⟩:=hc j v hj
   exact⟨x,by rw[e4 j (by omega)];rw[gW hh,Nat.zero_add] at f1;exact f1,f2,f3⟩
  ·by_cases hjl:j < o+l.length
   ·have hto:(List.take o B.cells).length=o:=by simp;omega
    rw[List.append_assoc,List.getElem?_append_right (by omega),hto,List.getElem?_append_left (by omega)] at hj
    obtain⟨x,f1,f2⟩:=SV.isL_get hl _ v hj
    refine⟨x,?_,f2,h1 x (List.mem_of_getElem? f1)⟩
    have:=e6 (j - o) (by omega)
    rw[show o+0+(j - o)=j by omega] at this
    rw[this];exact f1
   ·have hto:(List.take o B.cells++l).length=o+l.length:=by simp;omega
    rw[List.getElem?_append_right (by omega),hto,List.getElem?_drop] at hj
    rw[show o+l.length+(j - (o+l.length))=j by omega] at hj
    obtain⟨x,f1,f2,f3⟩:=hc j v hj
    exact⟨x,by rw[e5 j (by omega)];rw[gW hh,Nat.zero_add] at f1;exact f1,f2,f3⟩
theorem Mw (R:Rel C N ρ fr m n a w) {t:TypeId} {k:Nat} {o o':Operand} {x y:Opd}
  (h1:aZ o x=true) (h2:aZ o' y=true) (h3:iG C.P t=some k) (hk:dP T call fr m n K (.store k x y)) :
  ∃ w',(Instr.storeAt t (a.eval o) (a.eval o')).run C.P w=.ok () w'∧m8 C ρ K undef w':=by
 have hv:=cU R h1
 have hy:=cU R h2
 simp only[dP] at hk
 split at hk
 ·rename_i i off he
  rw[he] at hv
  obtain⟨L,b,e1,e2,e3⟩:=by simpa only [SV.is] using hv
  obtain⟨B,e,l,hB,hkd,hl,hlen,ho,hK⟩:=hk
  obtain⟨f1,f2⟩:=Am hl hy
  obtain⟨hst,_⟩:=R.mem.cap (fM hB) hkd e1 e2
  obtain⟨w',g1,g2⟩:=E3 R.mem (fM hB) hkd e1 e2 f1 f2 (o:=off) (by omega) C.P
  refine⟨w',?_,ρ,.any,_,_,dO.le_refl _,hK,trivial,g2,R.n0⟩
  have hsz:(a.eval o').cells.size=k:=by
   have:=SV.isL_length f1
   simp at this;omega
  rw[e3]
  simp[Instr.storeAt,Instr.sureAddr,storeVar,cD h3,hsz]
  rw[hst,Nat.zero_add];exact g1
 ·exact hk.elim
def pH:List SV→List Value→Bool
 | [],[]=>true
 | v :: l,x :: xs=>KC v x && x.oneCell' && pH l xs
 | _,_=>false
theorem pY:∀ {l:List SV} {xs:List Value},pH l xs=true→SV.isL ρ l xs∧∀ y∈xs,y.oneCell'=true
 | [],[],_=>by simp[SV.isL]
 | v :: l,x :: xs,h=>by
  simp only[pH,Bool.and_eq_true] at h
  obtain⟨⟨h1,h2⟩,h3⟩:=h
  obtain⟨g1,g2⟩:=pY h3
  refine⟨by simp only[SV.isL];exact⟨x,xs,rfl,Gx h1 ρ,g1⟩,fun y hy=>?_⟩
  rcases List.mem_cons.1 hy with rfl|hy
  ·exact h2
  ·exact g2 y hy
 | [],_ :: _,h=>by simp[pH] at h
 | _ :: _,[],h=>by simp[pH] at h
def An (P:Program) (t:TypeId) (z:List SV):Bool:=
 match P.info? t with
 | some i=>match i.zero with
  | some v=>pH z v.cells.toList
  | none=>false
 | none=>false
theorem Cb {P:Program} {t:TypeId} {z:List SV} (h:An P t z=true) :
  ∃ v,(zeroValue t).run P w=.ok v w∧SV.isL ρ z v.cells.toList∧∀ y∈v.cells.toList,y.oneCell'=true:=by
 unfold An at h
 cases hi:P.info? t with
 | none=>simp[hi] at h
 | some i=>
  simp only[hi] at h
  cases hz:i.zero with
  | none=>simp[hz] at h
  | some v=>
   simp only[hz] at h
   obtain⟨g1,g2⟩:=pY (ρ:=ρ) h
   exact⟨v,by simp[zeroValue,typeInfo,hi,hz],g1,g2⟩
theorem Ts (R:Rel C N ρ fr m n a w) {t:TypeId} {z:List SV} (h:An C.P t z=true) (hk:dP T call fr m n K (.new t z)) :
  ∃ y w',(Instr.alloc t true (.tuple #[])).run C.P w=.ok y w'∧m8 C ρ K y w':=by
 simp only[dP] at hk
 obtain⟨v,h1,h2,h3⟩:=Cb (ρ:=ρ) (w:=w) h
 refine⟨.pointer (some ⟨w.heap.size,0,none⟩),{ w with heap:=w.heap.push (.cells v.cells t) },by simp[Instr.alloc,h1,newVar,newRow],CA R h2 h3 (by exact⟨rfl,rfl⟩) (by simp) hk ?_⟩
 simp only[SV.is];exact⟨_,_,iL,rfl,rfl⟩
theorem Tt (R:Rel C N ρ fr m n a w) {t:TypeId} {o:Operand} {x:Opd} (h1:aZ o x=true) (hk:dP T call fr m n K (.box t x)) :
  ∃ y w',(Instr.box t (a.eval o)).run C.P w=.ok y w'∧m8 C ρ K y w':=by
 have hv:=cU R h1
 simp only[dP] at hk
 obtain⟨l,hl,hK⟩:=hk
 obtain⟨h2,h3⟩:=Am hl hv
 refine⟨.pointer (some ⟨w.heap.size,0,none⟩),{ w with heap:=w.heap.push (.cells (a.eval o).cells t) },by simp[Instr.box,newVar,newRow],CA R h2 h3 (by exact⟨rfl,rfl⟩) (by simp) hK ?_⟩
 simp only[SV.is];exact⟨_,_,iL,rfl,rfl⟩
def pP (place:Nat→Option (Nat × Nat)):List (Nat × Operand)→List (Nat × Nat × Opd)→Bool
 | [],[]=>true
 | (i,o) :: r,(off,size,x) :: r'=>(place i==some (off,size)) && aZ o x && pP place r r'
 | _,_=>false
theorem WB {α:Type} (A B D:List α) (j:Nat):(A++B++D)[j]? =
  if j < A.length then A[j]? else if j < A.length+B.length then B[j - A.length]? else D[j - A.length - B.length]?:=by
 by_cases h1:j < A.length
 ·rw[if_pos h1,List.append_assoc,List.getElem?_append_left h1]
 ·rw[if_neg h1]
  by_cases h2:j < A.length+B.length
  ·rw[if_pos h2,List.append_assoc,List.getElem?_append_right (by omega),List.getElem?_append_left (by omega)]
  ·rw[if_neg h2,List.getElem?_append_right (by simp;omega),List.length_append,Nat.sub_sub]
theorem EK (vs:List Value):∀ (k:Nat) (cs:Array Value) (off:Nat),(off+k+vs.length≤cs.size) →
  ∃ cs',(vs.zipIdx k).foldl (fun cs (c,j)=>cs.setIfInBounds (off+j) c) cs=cs'∧cs'.size=cs.size ∧
   cs'.toList=cs.toList.take (off+k)++vs++cs.toList.drop (off+k+vs.length):=by
 induction vs with
 | nil=>intro k cs off _;exact⟨cs,rfl,rfl,by simp⟩
 | cons v vs ih=>
  intro k cs off h
  simp only[List.length_cons] at h
  obtain⟨cs',e1,e2,e3⟩:=ih (k+1) (cs.setIfInBounds (off+k) v) off (by simp;omega)
  refine⟨cs',by simpa [List.zipIdx_cons] using e1,by simpa using e2,?_⟩
  rw[e3]
  have hlt:off+k < cs.toList.length:=by simp;omega
  have e4:(cs.setIfInBounds (off+k) v).toList=cs.toList.set (off+k) v:=by simp
  rw[e4]
  apply List.ext_getElem?
  intro j
  have hl:(List.take (off+(k+1)) (cs.toList.set (off+k) v)).length=off+k+1:=by
   simp;simp at hlt;omega
  have hl2:(List.take (off+k) cs.toList).length=off+k:=by simp;simp at hlt;omega
  rw[WB,WB,hl,hl2]
  simp only[List.length_cons]
  by_cases h1:j < off+k
  ·rw[if_pos (by omega),if_pos h1,List.getElem?_take_of_lt (by omega),List.getElem?_take_of_lt h1,List.getElem?_set_ne (by omega)]
  ·by_cases h2:j=off+k
   ·subst h2
    rw[if_pos (by omega),if_neg h1,if_pos (by omega),List.getElem?_take_of_lt (by omega),List.getElem?_set_self hlt];simp
   ·rw[if_neg (by omega),if_neg h1]
    by_cases h3:j < off+k+1+vs.length
    ·rw[if_pos h3,if_pos (by omega),show j - (off+k)=(j - (off+k+1))+1 by omega,List.getElem?_cons_succ]
    ·rw[if_neg h3,if_neg (by omega),List.getElem?_drop,List.getElem?_drop,List.getElem?_set_ne (by omega)]
     congr 1
     omega
theorem JP {cs l:List SV} {xs ys:List Value} (h:SV.isL ρ cs xs) (h':SV.isL ρ l ys) (o:Nat) :
  SV.isL ρ (aF cs o l) (xs.take o++ys++xs.drop (o+ys.length)):=by
 unfold aF
 rw[SV.isL_length h']
 exact n8 (n8 (wD o h) h') (z9 _ h)
theorem F4 (R:Rel C N ρ fr m n a w) (place:Nat→Option (Nat × Nat)):∀ (ps:List (Nat × Operand)) (qs:List (Nat × Nat × Opd)) (cs:List SV) (xs:Array Value) (F:List SV→Prop),
  pP place ps qs=true→SV.isL ρ cs xs.toList→(∀ y∈xs.toList,y.oneCell'=true)→rY fr cs qs F →
  ∃ xs' cs',Instr.fill place xs (ps.map fun p=>(p.1,a.eval p.2))=some xs'∧F cs'∧SV.isL ρ cs' xs'.toList∧(∀ y∈xs'.toList,y.oneCell'=true)∧xs'.size=xs.size
 | [],[],cs,xs,F,_,h1,h2,hF=>⟨xs,cs,rfl,hF,h1,h2,rfl⟩
 | (i,o) :: ps,(off,size,x) :: qs,cs,xs,F,hp,h1,h2,hF=>by
  simp only[pP,Bool.and_eq_true,beq_iff_eq] at hp
  obtain⟨⟨p1,p2⟩,p3⟩:=hp
  simp only[rY] at hF
  obtain⟨l,f1,f2,f3,f4⟩:=hF
  obtain⟨g1,g2⟩:=Am f1 (cU R p2)
  have hlen:=SV.isL_length g1
  have hlx:=SV.isL_length h1
  simp only[Array.length_toList] at hlen hlx
  have hfold:=EK (a.eval o).cells.toList 0 xs off (by simp;omega)
  obtain⟨ys,k1,k2,k3⟩:=hfold
  have hys:SV.isL ρ (aF cs off l) ys.toList:=by
   rw[k3];simpa using JP h1 g1 off
  obtain⟨xs',cs',r1,r2,r3,r4,r5⟩:=F4 R place ps qs (aF cs off l) ys F p3 hys (fun y hy=>by
   rw[k3] at hy
   rcases List.mem_append.1 hy with hy|hy
   ·rcases List.mem_append.1 hy with hy|hy
    ·exact h2 y (List.mem_of_mem_take hy)
    ·exact g2 y hy
   ·exact h2 y (List.mem_of_mem_drop hy)) f4
  refine⟨xs',cs',?_,r2,r3,r4,?_⟩
  rotate_left
  ·rw[r5,← Array.length_toList,k3];simp;omega
  simp only[List.map_cons,Instr.fill,p1]
  rw[if_neg (by simp;omega)]
  rw[← Array.foldl_toList,Array.toList_zipIdx,k1]
  exact r1
 | [],_ :: _,_,_,_,hp,_,_,_=>by simp[pP] at hp
 | _ :: _,[],_,_,_,hp,_,_,_=>by simp[pP] at hp
end
def CB (P:Program) (t:TypeId):Option (Nat→Option (Nat × Nat)):=
 match P.underlying t with
 | some (.struct fs)=>some fun i=>match fs[i]? with
  | some f=>(iG P f.type).map fun s=>(f.offset,s)
  | none=>none
 | some (.array _ e)=>(iG P e).map fun s=>fun i=>some (i * s,s)
 | _=>none
section
variable {C:Ctx} {N:Nat} {ρ:dO} {fr:Fr} {m:bL} {n:Nat} {a:Act} {w:World} {K:Kt} {T:List (Nat × List SV)} {call:bG}
theorem Cc {P:Program}:∀ (fs:List Field) (w:World),(∀ f∈fs,(iG P f.type).isSome=true) →
  (fs.mapM (m:=Sem) fun f=>do pure (f.offset,← sizeOf f.type)).run P w=.ok (fs.map fun f=>(f.offset,(iG P f.type).getD 0)) w
 | [],w,_=>by simp
 | f :: fs,w,h=>by
  obtain⟨k,hk⟩:=Option.isSome_iff_exists.1 (h f List.mem_cons_self)
  rw[List.mapM_cons]
  simp only[Sem.run_bind,cD hk,Result.andThen_ok,Sem.run_pure,Cc fs w (fun g hg=>h g (List.mem_cons_of_mem _ hg)),List.map_cons,hk,Option.getD_some]
theorem Cd {p q:Nat→Option (Nat × Nat)}:∀ (l:List (Nat × Value)) (xs:Array Value),(∀ x∈l,p x.1=q x.1)→Instr.fill p xs l=Instr.fill q xs l
 | [],_,_=>rfl
 | (i,v) :: l,xs,h=>by
  have h0:=h (i,v) List.mem_cons_self
  simp only at h0
  simp only[Instr.fill,h0]
  split
  ·rfl
  ·split
   ·rfl
   ·exact Cd l _ fun x hx=>h x (List.mem_cons_of_mem _ hx)
def wE (P:Program) (t:TypeId):Bool:=
 match P.underlying t with
 | some (.struct fs)=>fs.toList.all fun f=>(iG P f.type).isSome
 | _=>true
theorem Mx (R:Rel C N ρ fr m n a w) {t:TypeId} {z:List SV} {ps:Array (Nat × Operand)} {qs:List (Nat × Nat × Opd)} {place:Nat→Option (Nat × Nat)}
  (h:An C.P t z=true) (hp:CB C.P t=some place) (hf:wE C.P t=true) (hq:pP place ps.toList qs=true)
  (hk:dP T call fr m n K (.build z qs)) :
  ∃ y,(Instr.build t (ps.map fun (i,x)=>(i,a.eval x))).run C.P w=.ok y w∧m8 C ρ K y w:=by
 simp only[dP] at hk
 obtain⟨v,h1,h2,h3⟩:=Cb (ρ:=ρ) (w:=w) h
 obtain⟨xs',cs',e1,e2,e3,e4,_⟩:=F4 R place ps.toList qs z v.cells _ hq h2 h3 hk
 refine⟨.agg xs',?_,bE R e2 ?_⟩
 ·have hps:(ps.map fun (i,x)=>(i,a.eval x)).toList=ps.toList.map fun p=>(p.1,a.eval p.2):=by simp
  unfold CB at hp
  cases hu:C.P.underlying t with
  | none=>simp[hu] at hp
  | some d=>
   cases d with
   | struct fs=>
    simp only[hu,Option.some.injEq] at hp
    subst hp
    unfold wE at hf
    simp only[hu,List.all_eq_true] at hf
    have hfill:Instr.fill (((fs.toList.map fun f=>(f.offset,(iG C.P f.type).getD 0)).toArray)[·]?) v.cells (ps.toList.map fun p=>(p.1,a.eval p.2))=some xs':=by
     rw[← e1]
     refine Cd _ _ fun x _=>?_
     simp
     cases hx:fs[x.1]? with
     | none=>simp
     | some f=>
      have:=hf f (by simpa using Array.mem_of_getElem? hx)
      obtain⟨k,hk⟩:=Option.isSome_iff_exists.1 this
      simp[hk]
    simp only[Instr.build,Sem.run_bind,h1,Result.andThen_ok,bJ hu,hps]
    rw[Array.mapM_eq_mapM_toList]
    simp only[Sem.run_map,Cc fs.toList w hf,Result.andThen_ok]
    rw[hfill];rfl
   | array k e=>
    simp only[hu] at hp
    obtain⟨s,hs,rfl⟩:=Option.map_eq_some_iff.1 hp
    simp only[Instr.build,Sem.run_bind,h1,Result.andThen_ok,bJ hu,hps,cD hs]
    rw[e1];rfl
   | _=>simp[hu] at hp
 ·simp only[SV.is];exact⟨_,e3,e4,rfl⟩
theorem Lr (R:Rel C N ρ fr m n a w) {t e:TypeId} {s k:Nat} {z:List SV} {zv:Value} {ps:Array (Nat × Operand)} {qs:List (Nat × Nat × Opd)}
  (ht:C.P.underlying t=some (.slice e)) (hs:iG C.P e=some s) (oJ:s≠0) (hz:k * s≠0→(C.P.info? e).bind (·.zero)=some zv)
  (hzz:pH z ((Array.range (k * s)).map (zv.cells[· % zv.cells.size]!)).toList=true) (hsm:k * s≤2 ^ 24)
  (hq:pP (fun i=>some (i * s,s)) ps.toList qs=true) (hk:dP T call fr m n K (.bslice e s k z qs)) :
  ∃ y w',(Instr.buildSlice t k (ps.map fun (i,x)=>(i,a.eval x))).run C.P w=.ok y w'∧m8 C ρ K y w':=by
 simp only[dP] at hk
 obtain⟨h2,h3⟩:=pY (ρ:=ρ) hzz
 obtain⟨xs',cs',e1,e2,e3,e4,e5⟩:=F4 R (fun i=>some (i * s,s)) ps.toList qs z _ _ hq h2 h3 hk
 have hps:(ps.map fun (i,x)=>(i,a.eval x)).toList=ps.toList.map fun p=>(p.1,a.eval p.2):=by simp
 refine⟨.slice (some ⟨w.heap.size,0,none⟩) k k,{ w with heap:=w.heap.push (.cells xs' e) },?_,CA R e3 e4 (by exact⟨rfl,rfl⟩) (by simp) e2 ?_⟩
 ·unfold Instr.buildSlice
  simp only[Sem.run_bind,bJ ht,Result.andThen_ok,cD hs,Sem.run_ite]
  rw[if_neg (by omega)]
  by_cases h0:k * s=0
  ·rw[if_pos h0]
   simp only[Sem.run_pure,Result.andThen_ok,hps]
   rw[show (Array.map (fun x=>(#[]:Array Value)[x % (#[]:Array Value).size]!) (Array.range (k * s)))=Array.map (fun x=>zv.cells[x % zv.cells.size]!) (Array.range (k * s)) by simp[h0],e1]
   simp[newRow]
  ·rw[if_neg h0]
   have:=hz h0
   cases hi:C.P.info? e with
   | none=>simp[hi] at this
   | some i=>
    simp[hi] at this
    have hzv:(zeroValue e).run C.P w=.ok zv w:=by simp[zeroValue,typeInfo,hi,this]
    simp only[hzv,Sem.run_pure,Result.andThen_ok,hps]
    rw[e1]
    simp[newRow]
 ·simp only[SV.is]
  refine⟨_,some ⟨w.heap.size,0,none⟩,iL,?_,.inl rfl⟩
  have:xs'.size=k * s:=by rw[e5];simp
  simp[this,Nat.mul_div_cancel _ (Nat.pos_of_ne_zero oJ)]
theorem RE (R:Rel C N ρ fr m n a w) {oc oa ob:Operand} {c x y:Opd} (h1:aZ oc c=true) (h2:aZ oa x=true) (h3:aZ ob y=true)
  (hk:dP T call fr m n K (.pick c x y)) :
  ∃ b,a.eval oc=.bool b∧m8 C ρ K (if b=true then a.eval oa else a.eval ob) w:=by
 simp only[dP] at hk
 obtain⟨b,e,hk⟩:=EZ hk (cU R h1)
 refine⟨b,e,?_⟩
 cases b
 ·exact bE R (hk.2 rfl) (cU R h3)
 ·exact bE R (hk.1 rfl) (cU R h2)
theorem RF (R:Rel C N ρ fr m n a w) {f:FuncId} {os os':Array Operand} {xs xs':List Opd} (h1:os.toList.length=xs.length) (h2:os'.toList.length=xs'.length)
  (h3:∀ (j:Nat) o x,os.toList[j]?=some o→xs[j]?=some x→aZ o x=true) (h4:∀ (j:Nat) o x,os'.toList[j]?=some o→xs'[j]?=some x→aZ o x=true)
  (hk:dP T call fr m n K (.mkfn f xs xs')) :
  ∃ z,(Instr.makeFunc (.func f) (os.map a.eval) (os'.map a.eval)).run C.P w=.ok z w∧m8 C ρ K z w:=by
 simp only[dP] at hk
 have key:∀ (os:List Operand) (xs:List Opd),os.length=xs.length→(∀ (j:Nat) o x,os[j]?=some o→xs[j]?=some x→aZ o x=true) →
   SV.isL ρ (xs.map (·.ev fr)) (os.map a.eval):=by
  intro os xs hl h
  refine SV.isL_of_get (by simp[hl]) fun j v hj=>?_
  simp at hj
  obtain⟨x,hx,rfl⟩:=hj
  have hlt:j < os.length:=by
   rcases Nat.lt_or_ge j os.length with h'|h'
   ·exact h'
   ·rw[List.getElem?_eq_none (by omega)] at hx;cases hx
  refine⟨a.eval os[j],by simp[List.getElem?_eq_getElem hlt],cU R (h j _ x (List.getElem?_eq_getElem hlt) hx)⟩
 refine⟨_,rfl,bE R hk ?_⟩
 simp only[SV.is]
 refine⟨_,_,key os.toList xs h1 h3,key os'.toList xs' h2 h4,?_⟩
 congr 1 <;> (apply Array.ext';simp)
theorem RG (R:Rel C N ρ fr m n a w) {o:Operand} {x:Opd} (h1:aZ o x=true) (hk:dP T call fr m n K (.nilc x)) :
  (∃ i,a.eval o=.pointer (some i)∨∃ f p q,a.eval o=.func (.func f) p q)∧m8 C ρ K (a.eval o) w:=by
 have hv:=cU R h1
 simp only[dP] at hk
 split at hk
 ·rename_i i off he
  rw[he] at hv
  obtain⟨L,b,e1,e2,e3⟩:=by simpa only [SV.is] using hv
  exact⟨⟨_,.inl e3⟩,bE R hk hv⟩
 ·rename_i i off he
  rw[he] at hv
  have e3:=by simpa only [SV.is] using hv
  exact⟨⟨_,.inl e3⟩,bE R hk hv⟩
 ·rename_i f p q he
  rw[he] at hv
  obtain⟨as',bs',_,_,e⟩:=by simpa only [SV.is] using hv
  exact⟨⟨default,.inr ⟨f,_,_,e⟩⟩,bE R hk hv⟩
 ·exact hk.elim
theorem Tu (R:Rel C N ρ fr m n a w) {o:Operand} {x:Opd} {i:Nat} (h1:aZ o x=true) (hk:dP T call fr m n K (.ext x i)) :
  ∃ y,(Instr.extract (a.eval o) i).run C.P w=.ok y w∧m8 C ρ K y w:=by
 have hv:=cU R h1
 simp only[dP] at hk
 split at hk
 ·rename_i l he
  rw[he] at hv
  obtain⟨xs,e1,e2⟩:=by simpa only [SV.is] using hv
  obtain⟨v,hv',hK⟩:=hk
  obtain⟨y,f1,f2⟩:=SV.isL_get e1 i v hv'
  exact⟨y,by simp[e2,Instr.extract,f1],bE R hK f2⟩
 ·exact hk.elim
theorem WC (R:Rel C N ρ fr m n a w) {o o':Operand} {x y:Opd} (h1:aZ o x=true) (h2:aZ o' y=true) (hk:dP T call fr m n K (.mx x y)) (A:Array TypeId) (t:TypeId) :
  ∃ z,(Builtin.max_ A t #[a.eval o,a.eval o']).run C.P w=.ok z w∧m8 C ρ K z w:=by
 have hv:=cU R h1
 have hv':=cU R h2
 simp only[dP] at hk
 split at hk
 ·rename_i k i k' j he he'
  rw[he] at hv;rw[he'] at hv'
  have e:=by simpa only [SV.is] using hv
  have e':=by simpa only [SV.is] using hv'
  rw[e,e']
  exact⟨_,by simp[Builtin.max_,Builtin.max2];rfl,bE R hk (by simp[SV.is])⟩
 ·exact hk.elim
theorem WD (R:Rel C N ρ fr m n a w) {o o':Operand} {x y:Opd} (h1:aZ o x=true) (h2:aZ o' y=true) (hk:dP T call fr m n K (.mn x y)) (A:Array TypeId) (t:TypeId) :
  ∃ z,(Builtin.min_ A t #[a.eval o,a.eval o']).run C.P w=.ok z w∧m8 C ρ K z w:=by
 have hv:=cU R h1
 have hv':=cU R h2
 simp only[dP] at hk
 split at hk
 ·rename_i k i k' j he he'
  rw[he] at hv;rw[he'] at hv'
  have e:=by simpa only [SV.is] using hv
  have e':=by simpa only [SV.is] using hv'
  rw[e,e']
  exact⟨_,by simp[Builtin.min_,Builtin.min2];rfl,bE R hk (by simp[SV.is])⟩
 ·exact hk.elim
def My (P:Program) (isStr:Bool) (t:TypeId):Bool:=
 match isStr,P.underlying t with
 | true,some .string=>true
 | false,some (.slice _)=>true
 | _,_=>false
theorem Tv (R:Rel C N ρ fr m n a w) {o:Operand} {x:Opd} {t ty:TypeId} {b:Bool} (h1:aZ o x=true)
  (h2:My C.P b t=true) (hk:dP T call fr m n K (.len b x)) :
  ∃ z,(Builtin.len_ #[t] ty #[a.eval o]).run C.P w=.ok z w∧m8 C ρ K z w:=by
 have hv:=cU R h1
 simp only[dP] at hk
 unfold My at h2
 split at hk
 ·rename_i s he
  rw[he] at hv
  have e:=by simpa only [SV.is] using hv
  cases hu:C.P.underlying t with
  | none=>simp[hu] at h2
  | some d=>
   cases d <;> simp[hu] at h2
   exact⟨_,by simp[Builtin.len_,bJ hu,e,goInt];rfl,bE R hk (by simp[SV.is,ByteArray.size])⟩
 ·rename_i i o' s l cap he
  rw[he] at hv
  obtain⟨L,A,e1,e2,e3⟩:=by simpa only [SV.is] using hv
  cases hu:C.P.underlying t with
  | none=>simp[hu] at h2
  | some d=>
   cases d <;> simp[hu] at h2
   exact⟨_,by simp[Builtin.len_,bJ hu,e2,goInt];rfl,bE R hk (by simp[SV.is])⟩
 ·rename_i he
  rw[he] at hv
  have e:=by simpa only [SV.is] using hv
  cases hu:C.P.underlying t with
  | none=>simp[hu] at h2
  | some d=>
   cases d <;> simp[hu] at h2
   exact⟨_,by simp[Builtin.len_,bJ hu,e,goInt];rfl,bE R hk (by simp[SV.is])⟩
 ·exact hk.elim
end
section
variable {C:Ctx} {N:Nat} {ρ:dO} {fr:Fr} {m:bL} {n:Nat} {a:Act} {w:World} {K:Kt} {T:List (Nat × List SV)} {call:bG}
theorem wF {P:Program} (A:Addr) (w:World):(loadCells A 0).run P w=.ok #[] w:=rfl
theorem Ce (R:MemOk C ρ m n w) {s:Nat} {v:SV} {F:Nat→List SV→Prop} (h:vS m s v F) {x:Value} (hx:v.is ρ x) (P:Program) :
  ∃ k l xs,F k l∧SV.isL ρ l xs∧(∀ y∈xs,y.oneCell'=true)∧xs.length=k * s∧(Builtin.lenOf x).run P w=.ok k w ∧
   (∀ w':World,w'.heap=w.heap→∀ j,j≤k→(Builtin.firstCells s j x).run P w'=.ok (xs.take (j * s)).toArray w')∧∃ A c,x=.slice A k c:=by
 unfold vS at h
 split at h
 ·rename_i i o s' len cap
  obtain⟨rfl,B,hB,hlen,hF⟩:=h
  obtain⟨L,A,e1,e2,e3⟩:=by simpa only [SV.is] using hx
  obtain⟨L',f1,f2⟩:=R.blk i B (fM hB)
  rw[e1] at f1;cases f1
  cases hb:L.blk with
  | none=>
   have hc:B.cells=[]:=by unfold Blk.okAt at f2;rw[hb] at f2;exact f2.1
   have hl0:len * s'=0:=by rw[hc] at hlen;simp at hlen;omega
   have hA:A=none:=by
    rcases e3 with e3|e3
    ·rw[e3,hb];rfl
    ·exact e3.2.2.2 hb
   refine⟨_,_,[],hF,?_,by simp,by simp[hl0],by simp[e2,Builtin.lenOf],fun w' hw' j hj=>?_,A,_,e2⟩
   ·rw[hl0];simp[SV.isL]
   ·rw[e2,hA];simp[Builtin.firstCells]
  | some b=>
   have hc:=tT R hB e1 hb
   obtain⟨xs,g1,g2,g3,g4⟩:=y9 hc o (len * s') hlen
   refine⟨_,_,xs,hF,g2,g3,g1,by simp[e2,Builtin.lenOf],fun w' hw' j hj=>?_,A,_,e2⟩
   rw[e2]
   by_cases h0:j * s'=0
   ·rw[h0]
    cases A with
    | none=>simp[Builtin.firstCells]
    | some A=>simp[Builtin.firstCells,h0,wF]
   ·have hA:A=some ⟨b,L.st+o,none⟩:=by
     rcases e3 with e3|e3
     ·rw[e3,hb];rfl
     ·have hj0:j=0:=by omega
      subst hj0;simp at h0
    rw[hA]
    have hle:j * s'≤len * s':=Nat.mul_le_mul_right _ hj
    have:=run_loadCells_list (P:=P) w' ⟨b,L.st+o,none⟩ (xs.take (j * s')) (fun q v hq=>by
     rw[Addr.add_mk,fU (w:=w) (by rw[hw'])];rw[List.getElem?_take] at hq
     split at hq
     ·exact g4 q v hq
     ·cases hq)
    rw[List.length_take,Nat.min_eq_left (by omega)] at this
    simpa [Builtin.firstCells] using this
 ·have e:=by simpa only [SV.is] using hx
  exact⟨_,_,[],h,by simp[SV.isL],by simp,by simp,by simp[e,Builtin.lenOf],fun w' hw' j hj=>by simp[e,Builtin.firstCells],_,_,e⟩
 ·have e:=by simpa only [SV.is] using hx
  exact⟨_,_,[],h,by simp[SV.isL],by simp,by simp,by simp[e,Builtin.lenOf],fun w' hw' j hj=>by
   have:j=0:=by omega
   subst this
   simp[e,Builtin.firstCells,wF],_,_,e⟩
 ·exact h.elim
theorem Gy (R:MemOk C ρ m n w) {s:Nat} {v:SV} {F:Nat→List SV→Prop} (h:vT m s v F) {x:Value} (hx:v.is ρ x) (P:Program) :
  ∃ k l xs,F k l∧SV.isL ρ l xs∧(∀ y∈xs,y.oneCell'=true)∧xs.length=k * s∧(Builtin.lenOf x).run P w=.ok k w ∧
   (∀ w':World,w'.heap=w.heap→∀ j,j≤k→(Builtin.firstCells s j x).run P w'=.ok (xs.take (j * s)).toArray w'):=by
 unfold vT at h
 split at h
 ·rename_i t
  have e:=by simpa only [SV.is] using hx
  obtain⟨rfl,hF⟩:=h
  refine⟨_,_,t.map (fun b=>Value.int .u8 b.toNat),hF,?_,?_,by simp,by simp[e,Builtin.lenOf,ByteArray.size],fun w' _ j _=>?_⟩
  ·refine SV.isL_of_get (by simp) fun j v hj=>?_
   simp at hj
   obtain⟨b,hb,rfl⟩:=hj
   exact⟨.int .u8 b.toNat,by simp[hb],by simp[SV.byte,SV.is]⟩
  ·intro y hy
   obtain⟨b,_,rfl⟩:=List.mem_map.1 hy;rfl
  ·rw[e]
   simp[Builtin.firstCells,ByteArray.extract_mk]
 ·obtain⟨k,l,xs,h1,h2,h3,h4,h5,h6,_⟩:=Ce R h hx P
  exact⟨k,l,xs,h1,h2,h3,h4,h5,h6⟩
theorem KF {ρ:dO}:∀ {l:List SV} {xs:List Value},l.all Gv=true→SV.isL ρ l xs →
  ∃ ns:List Int,xs=ns.map (Value.int .u8)∧l.map byteOf=ns.map fun n=>UInt8.ofNat n.toNat
 | [],xs,_,h=>⟨[],by simp only[SV.isL] at h;subst h;rfl,rfl⟩
 | v :: l,xs,hu,h=>by
  simp only[List.all_cons,Bool.and_eq_true] at hu
  simp only[SV.isL] at h
  obtain⟨y,ys,rfl,h2,h3⟩:=h
  obtain⟨ns,e1,e2⟩:=KF hu.2 h3
  have hv:=hu.1
  unfold Gv at hv
  split at hv
  ·rename_i i
   have e:=by simpa only [SV.is] using h2
   exact⟨i :: ns,by simp[e,e1],by simp[byteOf,e2]⟩
  ·cases hv
theorem Tw (R:Rel C N ρ fr m n a w) {s d e:TypeId} {o:Operand} {x:Opd} (h1:aZ o x=true)
  (hs:C.P.underlying s=some (.slice e)) (he:C.P.underlying e=some (.int .u8)) (hd:C.P.underlying d=some .string)
  (hk:dP T call fr m n K (.b2s x)) :
  ∃ y,(convert s d (a.eval o)).run C.P w=.ok y w∧m8 C ρ K y w:=by
 have hv:=cU R h1
 simp only[dP] at hk
 obtain⟨k,l,xs,⟨f1,f2⟩,g1,g2,g3,g4,g5,A,c,hA⟩:=Ce R.mem hk hv C.P
 obtain⟨ns,e1,e2⟩:=KF f1 g1
 refine⟨.string ⟨(l.map byteOf).toArray⟩,?_,bE R f2 (by simp only[SV.is])⟩
 rw[hA,run_convert_bytes_string w s d e A k c hs he hd]
 have:=g5 w rfl k (Nat.le_refl _)
 rw[hA] at this
 cases A with
 | none=>
  simp[Builtin.firstCells] at this
  have hx0:xs=[]:=by
   rcases this with h|h
   ·subst h;simpa using g3
   ·exact h
  rw[hx0] at e1
  have:ns=[]:=by simpa using e1.symm
  rw[e2,this]
  simp[Conv.bytesToString,ByteArray.empty,ByteArray.emptyWithCapacity]
  rfl
 | some A=>
  simp only[Builtin.firstCells,Nat.mul_one] at this g3
  rw[List.take_of_length_le (by omega),e1] at this
  rw[run_bytesToString w A k c ns this,foldl_push_bytes,e2]
  simp[ByteArray.empty,ByteArray.emptyWithCapacity]
  rfl
theorem Gz (w:World) (h:Array Obj) (o:Obj) (cs:Array Value) (e:TypeId) (k:Nat) (hw:w.heap=h.push (.cells cs e (0,0))) (hk:cs.size=k) :
  (w.freeze ⟨h.size,k,none⟩ 1).heap=h.push (.cells cs e (k,k+1)):=by
 unfold World.freeze
 rw[if_neg (by decide)]
 simp only[hw]
 apply Array.ext
 ·simp
 ·intro i h1 h2
  simp only[Array.getElem_modify,Array.getElem_push]
  by_cases hi:i < h.size
  ·simp[hi,Nat.ne_of_gt hi]
  ·have:h.size=i:=by simp at h1;omega
   subst this
   simp
theorem Tx (R:Rel C N ρ fr m n a w) {s d e:TypeId} {u:TypeDesc} {o:Operand} {x:Opd} (h1:aZ o x=true)
  (hs:C.P.underlying s=some u) (he:C.P.underlying e=some (.int .u8)) (hd:C.P.underlying d=some (.slice e)) (hk:dP T call fr m n K (.s2b e x)) :
  ∃ y w',(convert s d (a.eval o)).run C.P w=.ok y w'∧m8 C ρ K y w':=by
 have hv:=cU R h1
 simp only[dP] at hk
 split at hk
 ·rename_i t ht
  rw[ht] at hv
  have ev:=by simpa only [SV.is] using hv
  rw[ev]
  obtain⟨cap,w1,hcap,hw1,hge,hsd⟩:∃ cap w1,(choose (.appendCap t.length 0 e)).run C.P w=.ok cap w1∧w1.heap=w.heap∧t.length≤cap∧(w1.os,w1.tape)=(w.os,w.tape)∧w1.output=w.output:=by
   exact⟨(Question.appendCap t.length 0 e).cut (w.tape w.drawn (.appendCap t.length 0 e)),{ w with drawn:=w.drawn+1 },by simp only[run_choose,Question.forced,Bool.false_eq_true,if_false],rfl,by simp[Question.cut],rfl,rfl⟩
  let elems:Array Value:=(⟨t.toArray⟩:ByteArray).data.map (fun b=>Value.int .u8 b.toNat)++Array.replicate (cap - t.length) (Value.int .u8 0)
  have hsz:elems.size=cap:=by simp[elems];omega
  refine⟨.slice (some ⟨w.heap.size,0,none⟩) t.length cap,({ w1 with heap:=w.heap.push (.cells elems e (0,0)) }:World).freeze ⟨w.heap.size,cap,none⟩ 1,?_,?_⟩
  ·have hsh:({ w1 with heap:=w.heap.push (.cells elems e (0,0)) }:World).shape? w.heap.size=some (e,cap):=by
    unfold World.shape?;simp[hsz]
   have hl:(⟨t.toArray⟩:ByteArray).size=t.length:=by simp[ByteArray.size]
   simp only[convert,Sem.run_bind,bJ hs,bJ hd,bJ he,Result.andThen_ok,Conv.stringToBytes,hl,hcap,newRow,run_newObj,hw1,Sem.run_pure,markStringish,run_shape]
   have:({ heap:=w.heap.push (.cells elems e (0,0)),tape:=w1.tape,drawn:=w1.drawn,os:=w1.os,output:=w1.output }:World).shape? w.heap.size=some (e,cap):=hsh
   simp only[elems] at this ⊢
   rw[this]
   simp only[run_freeze,Result.andThen_ok]
  ·have hfz:(({ w1 with heap:=w.heap.push (.cells elems e (0,0)) }:World).freeze ⟨w.heap.size,cap,none⟩ 1).heap=w.heap.push (.cells elems e (cap,cap+1)):=
    Gz _ w.heap (.cells elems e (0,0)) elems e cap rfl hsz
   have hm:=R.mem.alloc R.n0 elems e (cap,cap+1) (t.map SV.byte) hfz (by simp only[World.freeze];split <;> exact hsd) (.inr (by simp[hsz])) (by simp[hsz];exact hge) (fun j v hj=>by
    simp at hj
    obtain⟨b,hb,rfl⟩:=hj
    refine⟨.int .u8 b.toNat,?_,by simp[SV.byte,SV.is],rfl⟩
    have hlt:j < t.length:=by
     rcases Nat.lt_or_ge j t.length with h'|h'
     ·exact h'
     ·rw[List.getElem?_eq_none h'] at hb;cases hb
    simp only[elems]
    rw[Array.getElem?_append_left (by simpa using hlt)]
    simp[hb])
   refine⟨_,_,_,_,dO.le_set (R.mem.fresh _ (Nat.le_refl _)),hk,?_,hm,by have:=R.n0;omega⟩
   simp only[SV.is]
   exact⟨_,some ⟨w.heap.size,0,none⟩,iL,by simp[hsz],.inl rfl⟩
 ·exact hk.elim
end
section
variable {C:Ctx} {N:Nat} {ρ:dO} {fr:Fr} {m:bL} {n:Nat} {a:Act} {w:World} {K:Kt} {T:List (Nat × List SV)} {call:bG}
def qK:Option Operand→Option Opd→Bool
 | none,none=>true
 | some o,some x=>aZ o x
 | _,_=>false
theorem jK (R:Rel C N ρ fr m n a w) {x:Option Opd} {o:Option Operand} (h:qK o x=true) {d:Int} {F:Int→Prop} (hk:iK fr x d F) :
  (o=none∧F d)∨∃ k i,o.map a.eval=some (.int k i)∧F i:=by
 unfold iK at hk
 cases x with
 | none=>cases o with
  | none=>exact .inl ⟨rfl,hk⟩
  | some o=>simp[qK] at h
 | some x=>cases o with
  | none=>simp[qK] at h
  | some o=>
   obtain⟨k,i,e,hF⟩:=oR hk (cU R h)
   exact .inr ⟨k,i,by simp[e],hF⟩
theorem uW {P:Program} {isSl:Bool} {len cap:Nat} {lo hi:Option Value} {l h:Int}
  (hlo:(lo=none∧l=0)∨∃ k,lo=some (.int k l)) (hhi:(hi=none∧h=len)∨∃ k,hi=some (.int k h))
  (h0:0≤l) (h1:l≤h) (h2:h≤cap) :
  (Instr.sliceBounds isSl len cap lo hi none).run P w=.ok (l.toNat,h.toNat,cap) w:=by
 have hb:∀ (k:IntKind) (i:Int) (y:Nat) c,0≤i→i≤y→(Instr.sliceBound (.int k i) y c).run P w=.ok i.toNat w:=by
  intro k i y c g1 g2
  simp[Instr.sliceBound,asIntOf,g1,g2]
 unfold Instr.sliceBounds
 have hh:l≤(h.toNat:Int):=by omega
 rcases hlo with⟨rfl,rfl⟩|⟨k,rfl⟩ <;> rcases hhi with⟨rfl,rfl⟩|⟨k',rfl⟩
 ·simp
 ·simp[hb k' h cap _ (by omega) h2]
 ·simp[hb k l len _ h0 h1]
 ·simp[hb k' h cap _ (by omega) h2,hb k l h.toNat _ h0 hh]
theorem E4 {ρ:dO} {L:Loc} {A:Option Addr} {o s len c:Nat} {cap:Option Nat} {l h:Nat} {i:Nat}
  (e1:ρ i=some L) (hc:c=cap.getD ((L.cap - o) / s))
  (e3:A=L.blk.map (fun b=>(⟨b,L.st+o,none⟩:Addr))∨(len=0∧c=0∧(A=none↔L.blk=none)))
  (h1:l≤h) (h2:h≤len) (hlen:len≤c) (hs:s=0→cap≠none) :
  (SV.slc i (o+l * s) s (h - l) (cap.map (· - l))).is ρ (.slice (if c=l then A else A.map (·.add (l * s))) (h - l) (c - l)):=by
 simp only[SV.is]
 have hcap:c - l=(cap.map (· - l)).getD ((L.cap - (o+l * s)) / s):=by
  cases cap with
  | some q=>simp at hc ⊢;omega
  | none=>
   simp at hc ⊢
   rw[hc,← Nat.sub_sub]
   rw[Nat.mul_comm l s]
   by_cases h0:s * l≤L.cap - o
   ·rw[Nat.sub_mul_div]
   ·have:(L.cap - o) / s≤l:=by
     have oJ:0 < s:=by
      rcases Nat.eq_zero_or_pos s with h|h
      ·exact (hs h rfl).elim
      ·exact h
     apply Nat.le_of_lt
     rw[Nat.div_lt_iff_lt_mul oJ,Nat.mul_comm];omega
    rw[Nat.sub_eq_zero_of_le this,Nat.sub_eq_zero_of_le (by omega)];simp
 refine⟨L,_,e1,by rw[← hcap],?_⟩
 by_cases hcl:c=l
 ·rw[if_pos hcl]
  refine .inr ⟨by omega,by rw[← hcap];omega,?_⟩
  rcases e3 with e3|e3
  ·rw[e3];cases L.blk <;> simp
  ·exact e3.2.2
 ·rw[if_neg hcl]
  rcases e3 with e3|e3
  ·left;rw[e3]
   cases L.blk <;> simp[Addr.add_mk,Nat.add_assoc]
  ·omega
theorem RH (R:Rel C N ρ fr m n a w) {t e:TypeId} {s:Nat} {o:Operand} {x:Opd} {olo ohi:Option Operand} {lo hi:Option Opd} (h1:aZ o x=true)
  (h2:qK olo lo=true) (h3:qK ohi hi=true) (ht:C.P.underlying t=some (.slice e)) (hs:iG C.P e=some s) (oJ:s≠0)
  (hk:dP T call fr m n K (.slcS s x lo hi)) :
  ∃ y,(Instr.sliceAt t (a.eval o) (olo.map a.eval) (ohi.map a.eval) none).run C.P w=.ok y w∧m8 C ρ K y w:=by
 have hv:=cU R h1
 simp only[dP] at hk
 split at hk
 ·rename_i i off s' len cap he
  rw[he] at hv
  obtain⟨L,A,e1,e2,e3⟩:=by simpa only [SV.is] using hv
  obtain⟨rfl,hcap,hk⟩:=hk
  have hlen:len≤cap.getD ((L.cap - off) / s'):=by
   cases cap with
   | some c=>simpa using hcap
   | none=>
    obtain⟨B,hB,hl⟩:=hcap
    have hcp:B.cells.length≤L.cap:=by
     obtain⟨L',f1,f2⟩:=R.mem.blk i B (fM hB)
     rw[e1] at f1;cases f1
     exact Blk.okAt_len f2
    simp only[Option.getD_none]
    rw[Nat.le_div_iff_mul_le (by omega)];omega
  generalize hc:cap.getD ((L.cap - off) / s')=c at hlen e2 e3
  have key:∀ (l h:Int),((olo.map a.eval=none∧l=0)∨∃ k,olo.map a.eval=some (.int k l))→((ohi.map a.eval=none∧h=len)∨∃ k,ohi.map a.eval=some (.int k h)) →
    (0≤l∧l≤h∧h≤len∧K (.slc i (off+l.toNat * s') s' (h.toNat - l.toNat) (cap.map (· - l.toNat))) m n) →
    ∃ y,(Instr.sliceAt t (a.eval o) (olo.map a.eval) (ohi.map a.eval) none).run C.P w=.ok y w∧m8 C ρ K y w:=by
   rintro l h hl hh ⟨g1,g2,g3,hK⟩
   refine⟨_,?_,bE R hK (E4 e1 hc.symm e3 (by omega) (by omega) hlen (fun h=>absurd h oJ))⟩
   simp only[Instr.sliceAt,Sem.run_bind,bJ ht,Result.andThen_ok,Instr.slice,e2]
   rw[uW hl hh g1 g2 (by omega)]
   simp only[Result.andThen_ok,cD hs,Sem.run_pure]
  rcases jK R h2 hk with⟨r1,hk⟩|⟨k1,l,r1,hk⟩
  ·rcases jK R h3 hk with⟨r2,hk⟩|⟨k2,h,r2,hk⟩
   ·exact key 0 len (.inl ⟨by rw[r1];rfl,rfl⟩) (.inl ⟨by rw[r2];rfl,rfl⟩) hk
   ·exact key 0 h (.inl ⟨by rw[r1];rfl,rfl⟩) (.inr ⟨k2,r2⟩) hk
  ·rcases jK R h3 hk with⟨r2,hk⟩|⟨k2,h,r2,hk⟩
   ·exact key l len (.inr ⟨k1,r1⟩) (.inl ⟨by rw[r2];rfl,rfl⟩) hk
   ·exact key l h (.inr ⟨k1,r1⟩) (.inr ⟨k2,r2⟩) hk
 ·rename_i he
  rw[he] at hv
  have e2:a.eval o=.slice none 0 0:=by simpa only [SV.is] using hv
  have key:∀ (l h:Int),((olo.map a.eval=none∧l=0)∨∃ k,olo.map a.eval=some (.int k l))→((ohi.map a.eval=none∧h=0)∨∃ k,ohi.map a.eval=some (.int k h)) →
    (l=0∧h=0∧K (.val (.slice none 0 0)) m n) →
    ∃ y,(Instr.sliceAt t (a.eval o) (olo.map a.eval) (ohi.map a.eval) none).run C.P w=.ok y w∧m8 C ρ K y w:=by
   rintro l h hl hh ⟨rfl,rfl,hK⟩
   refine⟨.slice none 0 0,?_,bE R hK (by simp only[SV.is])⟩
   simp only[Instr.sliceAt,Sem.run_bind,bJ ht,Result.andThen_ok,Instr.slice,e2]
   rw[uW (len:=0) (cap:=0) hl hh (Int.le_refl _) (Int.le_refl _) (Int.le_refl _)]
   simp only[Result.andThen_ok,cD hs,Sem.run_pure]
   rfl
  rcases jK R h2 hk with⟨r1,hk⟩|⟨k1,l,r1,hk⟩
  ·rcases jK R h3 hk with⟨r2,hk⟩|⟨k2,h,r2,hk⟩
   ·exact key 0 0 (.inl ⟨by rw[r1];rfl,rfl⟩) (.inl ⟨by rw[r2];rfl,rfl⟩) hk
   ·exact key 0 h (.inl ⟨by rw[r1];rfl,rfl⟩) (.inr ⟨k2,r2⟩) hk
  ·rcases jK R h3 hk with⟨r2,hk⟩|⟨k2,h,r2,hk⟩
   ·exact key l 0 (.inr ⟨k1,r1⟩) (.inl ⟨by rw[r2];rfl,rfl⟩) hk
   ·exact key l h (.inr ⟨k1,r1⟩) (.inr ⟨k2,r2⟩) hk
 ·exact hk.elim
def Cf (P:Program) (t:TypeId):Option (Nat × TypeId):=
 match P.underlying t with
 | some (.array n e)=>some (n,e)
 | some (.pointer u)=>match P.underlying u with
  | some (.array n e)=>some (n,e)
  | _=>none
 | _=>none
theorem RI (R:Rel C N ρ fr m n a w) {t e:TypeId} {s k:Nat} {o:Operand} {x:Opd} {olo ohi:Option Operand} {lo hi:Option Opd} (h1:aZ o x=true)
  (h2:qK olo lo=true) (h3:qK ohi hi=true) (ht:Cf C.P t=some (k,e)) (hs:iG C.P e=some s)
  (hk:dP T call fr m n K (.slcA k s x lo hi)) :
  ∃ y,(Instr.sliceAt t (a.eval o) (olo.map a.eval) (ohi.map a.eval) none).run C.P w=.ok y w∧m8 C ρ K y w:=by
 have hv:=cU R h1
 simp only[dP] at hk
 split at hk
 ·rename_i i off he
  rw[he] at hv
  obtain⟨L,b,e1,e2,e3⟩:=by simpa only [SV.is] using hv
  have key:∀ (l h:Int),((olo.map a.eval=none∧l=0)∨∃ q,olo.map a.eval=some (.int q l))→((ohi.map a.eval=none∧h=k)∨∃ q,ohi.map a.eval=some (.int q h)) →
    (0≤l∧l≤h∧h≤k∧K (.slc i (off+l.toNat * s) s (h.toNat - l.toNat) (some (k - l.toNat))) m n) →
    ∃ y,(Instr.sliceAt t (a.eval o) (olo.map a.eval) (ohi.map a.eval) none).run C.P w=.ok y w∧m8 C ρ K y w:=by
   rintro l h hl hh ⟨g1,g2,g3,hK⟩
   have hb:=uW (P:=C.P) (w:=w) (isSl:=false) hl hh g1 g2 g3
   have hsl:=E4 (ρ:=ρ) (L:=L) (A:=some ⟨b,L.st+off,none⟩) (o:=off) (s:=s) (len:=k) (c:=k) (cap:=some k) (l:=l.toNat) (h:=h.toNat) e1 rfl (.inl (by rw[e2];rfl))
    (by omega) (by omega) (Nat.le_refl _) (fun _ h=>by cases h)
   refine⟨_,?_,bE R hK hsl⟩
   unfold Cf at ht
   cases hu:C.P.underlying t with
   | none=>simp[hu] at ht
   | some d=>
    cases d with
    | array n' e'=>
     simp[hu] at ht;obtain⟨rfl,rfl⟩:=ht
     simp only[Instr.sliceAt,Sem.run_bind,bJ hu,Result.andThen_ok,e3,Instr.sureAddr,Sem.run_pure,hb,cD hs]
     congr 2
     split <;> simp
    | pointer u=>
     simp only[hu] at ht
     cases hu':C.P.underlying u with
     | none=>simp[hu'] at ht
     | some d'=>
      cases d' with
      | array n' e'=>
       simp[hu'] at ht;obtain⟨rfl,rfl⟩:=ht
       simp only[Instr.sliceAt,Instr.slice,Sem.run_bind,bJ hu,bJ hu',Result.andThen_ok,e3,asAddr,Sem.run_pure,hb,cD hs]
       congr 2
       split <;> simp
      | _=>simp[hu'] at ht
    | _=>simp[hu] at ht
  rcases jK R h2 hk with⟨r1,hk⟩|⟨k1,l,r1,hk⟩
  ·rcases jK R h3 hk with⟨r2,hk⟩|⟨k2,h,r2,hk⟩
   ·exact key 0 k (.inl ⟨by rw[r1];rfl,rfl⟩) (.inl ⟨by rw[r2];rfl,rfl⟩) hk
   ·exact key 0 h (.inl ⟨by rw[r1];rfl,rfl⟩) (.inr ⟨k2,r2⟩) hk
  ·rcases jK R h3 hk with⟨r2,hk⟩|⟨k2,h,r2,hk⟩
   ·exact key l k (.inr ⟨k1,r1⟩) (.inl ⟨by rw[r2];rfl,rfl⟩) hk
   ·exact key l h (.inr ⟨k1,r1⟩) (.inr ⟨k2,r2⟩) hk
 ·exact hk.elim
theorem RJ (R:Rel C N ρ fr m n a w) {t:TypeId} {o:Operand} {x:Opd} {olo ohi:Option Operand} {lo hi:Option Opd} (h1:aZ o x=true)
  (h2:qK olo lo=true) (h3:qK ohi hi=true) (ht:C.P.underlying t=some .string)
  (hk:dP T call fr m n K (.slcT x lo hi)) :
  ∃ y,(Instr.sliceAt t (a.eval o) (olo.map a.eval) (ohi.map a.eval) none).run C.P w=.ok y w∧m8 C ρ K y w:=by
 have hv:=cU R h1
 simp only[dP] at hk
 split at hk
 ·rename_i s he
  rw[he] at hv
  have e2:=by simpa only [SV.is] using hv
  have hsz:(⟨s.toArray⟩:ByteArray).size=s.length:=by simp[ByteArray.size]
  have key:∀ (l h:Int),((olo.map a.eval=none∧l=0)∨∃ k,olo.map a.eval=some (.int k l))→((ohi.map a.eval=none∧h=s.length)∨∃ k,ohi.map a.eval=some (.int k h)) →
    (0≤l∧l≤h∧h≤s.length∧K (.str ((s.drop l.toNat).take (h.toNat - l.toNat))) m n) →
    ∃ y,(Instr.sliceAt t (a.eval o) (olo.map a.eval) (ohi.map a.eval) none).run C.P w=.ok y w∧m8 C ρ K y w:=by
   rintro l h hl hh ⟨g1,g2,g3,hK⟩
   refine⟨.string ⟨((s.drop l.toNat).take (h.toNat - l.toNat)).toArray⟩,?_,bE R hK (by simp only[SV.is])⟩
   simp only[Instr.sliceAt,Sem.run_bind,bJ ht,Result.andThen_ok,Instr.slice,e2,Option.isSome_none,Bool.false_eq_true,if_false,Sem.run_pure,hsz]
   rw[uW hl hh g1 g2 g3]
   simp only[Result.andThen_ok,Sem.run_pure,ByteArray.extract_mk]
  rcases jK R h2 hk with⟨r1,hk⟩|⟨k1,l,r1,hk⟩
  ·rcases jK R h3 hk with⟨r2,hk⟩|⟨k2,h,r2,hk⟩
   ·exact key 0 _ (.inl ⟨by rw[r1];rfl,rfl⟩) (.inl ⟨by rw[r2];rfl,rfl⟩) hk
   ·exact key 0 h (.inl ⟨by rw[r1];rfl,rfl⟩) (.inr ⟨k2,r2⟩) hk
  ·rcases jK R h3 hk with⟨r2,hk⟩|⟨k2,h,r2,hk⟩
   ·exact key l _ (.inr ⟨k1,r1⟩) (.inl ⟨by rw[r2];rfl,rfl⟩) hk
   ·exact key l h (.inr ⟨k1,r1⟩) (.inr ⟨k2,r2⟩) hk
 ·exact hk.elim
theorem Mz (R:Rel C N ρ fr m n a w) {t e:TypeId} {k:Nat} {o:Operand} {x:Opd} (h1:aZ o x=true)
  (ht:C.P.underlying t=some (.array k e)) (hk:dP T call fr m n K (.arrAt k x)) :
  ∃ y,(Instr.arrayAt t (a.eval o)).run C.P w=.ok y w∧m8 C ρ K y w:=by
 have hv:=cU R h1
 simp only[dP] at hk
 split at hk
 ·rename_i i off s' len cap he
  rw[he] at hv
  obtain⟨L,A,e1,e2,e3⟩:=by simpa only [SV.is] using hv
  obtain⟨k0,k1,⟨B,hB,hlen⟩,hK⟩:=hk
  obtain⟨L',b,f1,f2⟩:=C9 R.mem hB hlen
  rw[e1] at f1;cases f1
  have hA:A=some ⟨b,L.st+off,none⟩:=by
   rcases e3 with e3|e3
   ·rw[e3,f2];rfl
   ·omega
  refine⟨.pointer (some ⟨b,L.st+off,none⟩),?_,bE R hK (by simp only[SV.is];exact⟨L,b,e1,f2,rfl⟩)⟩
  simp[Instr.arrayAt,bJ ht,e2,hA,Nat.not_lt.2 k1]
 ·exact hk.elim
theorem RK (R:Rel C N ρ fr m n a w) {t e:TypeId} {s bytes:Nat} {z:List SV} {i:TypeInfo} {zv:Value} {ol oc:Operand} {l c:Opd} (h1:aZ ol l=true) (h2:aZ oc c=true)
  (ht:C.P.underlying t=some (.slice e)) (hi:C.P.info? e=some i) (hb:i.bytes=bytes) (hs:i.size=s) (hz:i.zero=some zv) (hzz:pH z zv.cells.toList=true) (hzs:z.length=s) (oJ:s≠0)
  (hk:dP T call fr m n K (.mksl e s bytes z l c)) :
  ∃ y w',(Instr.makeSlice t (a.eval ol) (a.eval oc)).run C.P w=.ok y w'∧m8 C ρ K y w':=by
 simp only[dP] at hk
 obtain⟨k1,ln,e1,hk⟩:=oR hk (cU R h1)
 obtain⟨k2,cp,e2,hk⟩:=oR hk (cU R h2)
 obtain⟨g1,g2,g3,g4,hK⟩:=hk
 obtain⟨q1,q2⟩:=pY (ρ:=ρ) hzz
 have hzl:zv.cells.size=s:=by have:=SV.isL_length q1;simp at this;omega
 have hwr:∀ v:Int,0≤v→v≤2 ^ 40→IntKind.i64.wrap v=v:=by
  intro v v0 v1
  exact IntWalk.i64_in _ (by omega)
 let xs:Array Value:=(Array.range (cp.toNat * s)).map (fun j=>zv.cells[j % zv.cells.size]!)
 have hx1:SV.isL ρ (Mr cp.toNat z) xs.toList:=by
  refine SV.isL_of_get (by simp[xs,Mr,hzs]) fun j v hj=>?_
  simp only[Mr,List.getElem?_map,Option.map_eq_some_iff,hzs] at hj
  obtain⟨j',hj',rfl⟩:=hj
  have hlt:j < cp.toNat * s:=by
   rcases Nat.lt_or_ge j (cp.toNat * s) with h|h
   ·exact h
   ·rw[List.getElem?_eq_none (by simpa using h)] at hj';cases hj'
  rw[List.getElem?_eq_getElem (by simpa using hlt)] at hj'
  simp at hj';subst hj'
  have oJ:0 < s:=by
   rcases Nat.eq_zero_or_pos s with h|h
   ·rw[h] at hlt;omega
   ·exact h
  have hm:j % s < z.length:=by rw[hzs];exact Nat.mod_lt _ oJ
  obtain⟨x,r1,r2⟩:=SV.isL_get q1 (j % s) z[j % s] (List.getElem?_eq_getElem hm)
  refine⟨x,?_,?_⟩
  ·have hm':j % s < zv.cells.size:=by rw[hzl];exact Nat.mod_lt _ oJ
   simp only[xs,Array.getElem?_toList,Array.getElem?_map]
   simp[hlt,hzl]
   simp[hm'] at r1
   rw[getElem!_pos zv.cells (j % s) hm'];exact r1
  ·rw[List.getD_eq_getElem?_getD,List.getElem?_eq_getElem hm];exact r2
 have hx2:∀ y∈xs.toList,y.oneCell'=true:=by
  intro y hy
  simp only[xs,Array.toList_map,Array.toList_range,List.mem_map,List.mem_range] at hy
  obtain⟨j,hj,rfl⟩:=hy
  have oJ:0 < s:=by
   rcases Nat.eq_zero_or_pos s with h|h
   ·rw[h] at hj;omega
   ·exact h
  have hm':j % zv.cells.size < zv.cells.size:=by rw[hzl];exact Nat.mod_lt _ oJ
  rw[getElem!_pos zv.cells _ hm']
  exact q2 _ (by simp)
 refine⟨.slice (some ⟨w.heap.size,0,none⟩) ln.toNat cp.toNat,{ w with heap:=w.heap.push (.cells xs e) },?_,CA R hx1 hx2 (by exact⟨rfl,rfl⟩) (by simp) hK ?_⟩
 ·have hln:=hwr ln g1 (by omega)
  have hcp:=hwr cp (by omega) g4
  have hti:(typeInfo e).run C.P w=.ok i w:=by simp[typeInfo,hi]
  have hbn:¬ ((bytes:Int) * cp > 281474976710656):=by
   have:(bytes:Int) * cp=cp * bytes:=Int.mul_comm _ _
   omega
  have hsize:(sizeOf e).run C.P w=.ok s w:=cD (by simp[hi,hs]) w
  have hc1:¬ cp < 0:=by omega
  have hc2:¬ ln < 0:=by omega
  have hc3:¬ ln > cp:=by omega
  simp only[Instr.makeSlice,Sem.run_bind,bJ ht,Result.andThen_ok,e1,e2,asInt,asIntOf,Sem.run_pure,hti,hb,hln,hcp,hc1,hc2,hc3,decide_false,hbn,Bool.false_or,Bool.false_eq_true,if_false,or_self,Bool.or_self,run_askRoom,hsize]
  have hbn2:¬ ((281474976710656:Int) < (bytes:Int) * cp):=by omega
  by_cases h0:cp.toNat * s=0
  ·have hr0:Array.range 0=#[]:=rfl
   simp[h0,newRow,xs,hbn2,hsize,hr0]
  ·have hzr:(zeroValue e).run C.P w=.ok zv w:=by simp[zeroValue,typeInfo,hi,hz]
   simp[h0,newRow,xs,hzr,hbn2,hsize]
 ·simp only[SV.is]
  refine⟨_,some ⟨w.heap.size,0,none⟩,iL,?_,.inl rfl⟩
  simp[xs,Nat.mul_div_cancel _ (Nat.pos_of_ne_zero oJ)]
end
section
variable {C:Ctx} {N:Nat} {ρ:dO} {fr:Fr} {m:bL} {n:Nat} {a:Act} {w:World} {K:Kt} {T:List (Nat × List SV)} {call:bG}
theorem MemOk.name (R:MemOk C ρ m n w) (hn:C.n0≤n) {m':bL} (hm:∀ x∈m',x∈m) {B:Blk} {L:Loc} (hB:B.okAt ρ w L)
  (hap:∀ b,L.blk=some b→∀ j B' L',(j,B')∈m'→ρ j=some L'→L'.blk≠some b)
  (hwr:∀ b,L.blk=some b→C.w0.heap.size≤b∨C.wr b) :
  MemOk C (ρ.set n L) ((n,B) :: m') (n+1) w:=by
 have hle:ρ.le (ρ.set n L):=dO.le_set (R.fresh _ (Nat.le_refl _))
 have hne:∀ i B,(i,B)∈m'→i≠n:=fun i B hi e=>by
  obtain⟨L',h1,_⟩:=R.blk i B (hm _ hi)
  rw[e,R.fresh _ (Nat.le_refl _)] at h1;cases h1
 have hset:∀ i B,(i,B)∈m'→(ρ.set n L) i=ρ i:=fun i B hi=>by
  unfold dO.set;rw[if_neg (hne i B hi)]
 constructor
 ·intro i B' hi
  rcases List.mem_cons.1 hi with hi|hi
  ·cases hi
   exact⟨L,iL,hB.mono hle (fun _ _=>rfl) (Nat.le_refl _)⟩
  ·obtain⟨L',h1,h2⟩:=R.blk i B' (hm _ hi)
   exact⟨L',by rw[hset i B' hi];exact h1,h2.mono hle (fun _ _=>rfl) (Nat.le_refl _)⟩
 ·intro i B1 j B2 L1 L2 b hi hj hij hown hL hL' hb
  rcases List.mem_cons.1 hi with hi|hi
  ·cases hi
   rw[iL] at hL;cases hL
   rcases List.mem_cons.1 hj with hj|hj
   ·cases hj;exact (hij rfl).elim
   ·rw[hset j B2 hj] at hL';exact hap b hb j B2 L2 hj hL'
  ·rw[hset i B1 hi] at hL
   rcases List.mem_cons.1 hj with hj|hj
   ·cases hj
    rw[iL] at hL';cases hL'
    intro hb';exact hap b hb' i B1 L1 hi hL hb
   ·rw[hset j B2 hj] at hL'
    exact R.apart i B1 j B2 L1 L2 b (hm _ hi) (hm _ hj) hij hown hL hL' hb
 ·intro i hi
  have:=R.fresh i (by omega)
  unfold dO.set;rw[if_neg (by omega)];exact this
 ·intro i B1 L1 b hi hown hL hb
  rcases List.mem_cons.1 hi with hi|hi
  ·cases hi
   rw[iL] at hL;cases hL;exact hwr b hb
  ·rw[hset i B1 hi] at hL
   exact R.wrt i B1 L1 b (hm _ hi) hown hL hb
 ·exact R.size
 ·exact R.frame
 ·intro i hi
  unfold dO.set;rw[if_neg (by omega)];exact R.keep i hi
 ·exact R.side
def HA (P:Program) (t u e:TypeId) (s bytes:Nat):Bool:=
 (match P.underlying t with|some (.slice e')=>e'==e|_=>false) &&
 (match P.underlying u with|some (.slice _)|some .string=>true|_=>false) &&
 (match P.info? e with|some i=>i.size==s && i.bytes==bytes && (i.zero.map (·.cells.size))==some s|none=>false) && bytes != 0 && s != 0
theorem HB (R:Rel C N ρ fr m n a w) {t u ty e:TypeId} {s bytes:Nat} (hty:HA C.P t u e s bytes=true) {sv y:Value} {A:Option Addr} {len c k:Nat}
  (hsv:sv=.slice A len c) {old xs:List Value} {ol l:List SV} (hlen:(Builtin.lenOf y).run C.P w=.ok k w)
  (hy:∀ w':World,w'.heap=w.heap→(Builtin.firstCells s k y).run C.P w'=.ok xs.toArray w') (hx:SV.isL ρ l xs) (hx1:∀ v∈xs,v.oneCell'=true) (hxl:xs.length=k * s)
  (hold:∀ w':World,w'.heap=w.heap→(Builtin.firstCells s len sv).run C.P w'=.ok old.toArray w') (ho:SV.isL ρ ol old) (ho1:∀ v∈old,v.oneCell'=true) (hol:old.length=len * s)
  (hbig:(len+k) * bytes≤2 ^ 40) (hb20:bytes≤2 ^ 20) (hgrow:¬ (len+k≤c)) {m':bL} (hm:∀ x∈m',x∈m)
  (hK:K (.slc n 0 s (len+k) none) ((n,⟨.own e,ol++l⟩) :: m') (n+1)) :
  ∃ z w',(Builtin.append_ #[t,u] ty #[sv,y]).run C.P w=.ok z w'∧m8 C ρ K z w':=by
 unfold HA at hty
 simp only[Bool.and_eq_true,bne_iff_ne,ne_eq] at hty
 obtain⟨⟨⟨⟨t1,t2⟩,t3⟩,t4⟩,t5⟩:=hty
 have ht:C.P.underlying t=some (.slice e):=by
  cases hu:C.P.underlying t with
  | none=>simp[hu] at t1
  | some d=>cases d <;> simp[hu] at t1;subst t1;rfl
 have hu:(∃ q,C.P.underlying u=some (.slice q))∨C.P.underlying u=some .string:=by
  cases hu:C.P.underlying u with
  | none=>simp[hu] at t2
  | some d=>cases d <;> simp[hu] at t2 <;> simp
 cases hi:C.P.info? e with
 | none=>simp[hi] at t3
 | some i=>
  simp[hi] at t3
  obtain⟨⟨q1,q2⟩,q3⟩:=t3
  obtain⟨zv,hz,hzs⟩:=q3
  have hsize:∀ w:World,(sizeOf e).run C.P w=.ok s w:=fun w=>cD (by simp[hi,q1]) w
  have hti:∀ w:World,(typeInfo e).run C.P w=.ok i w:=fun w=>by simp[typeInfo,hi]
  have hzr:∀ w:World,(zeroValue e).run C.P w=.ok zv w:=fun w=>by simp[zeroValue,typeInfo,hi,hz]
  have hneed:len+k≤2 ^ 40:=Nat.le_trans (Nat.le_mul_of_pos_right _ (by omega)) hbig
  have hfit:¬ (Builtin.nextslicecap (len+k) c * bytes > 2 ^ 48):=by
   have:=growslice_fits (need:=len+k) (old:=c) (bytes:=bytes) (by omega) (by omega)
   omega
  obtain⟨cap,hcapd⟩:∃ cap,cap=(Question.appendCap (len+k) c e).cut (w.tape w.drawn (.appendCap (len+k) c e)):=⟨_,rfl⟩
  have hcap:len+k≤cap:=by simp[hcapd,Question.cut]
  obtain⟨w1,hw1⟩:∃ w1:World,w1={ w with drawn:=w.drawn+1 }:=⟨_,rfl⟩
  have hcell:w1.heap=w.heap:=by rw[hw1]
  have hch:(choose (.appendCap (len+k) c e)).run C.P w=.ok cap w1:=by
   rw[hcapd,hw1];simp only[run_choose,Question.forced,Bool.false_eq_true,if_false]
  refine⟨.slice (some ⟨w.heap.size,0,none⟩) (len+k) cap,{ w1 with heap:=w.heap.push (.cells (old.toArray++xs.toArray++Builtin.zeroCells zv.cells (cap - (len+k))) e) },?_,?_⟩
  ·have hb0:¬ (i.bytes=0):=by rw[q2];exact t4
   rcases hu with⟨q,hu⟩|hu
   all_goals
    unfold Builtin.append_
    simp only[List.getElem?_toArray,List.getElem?_cons_zero,List.getElem?_cons_succ,Sem.run_bind,bJ ht,Result.andThen_ok,hsv,hsize,bJ hu,Sem.run_pure,Sem.run_ite,
     Bool.false_eq_true,if_false,hlen,hgrow,false_or,hti,hb0,and_false,q2,hfit,hch,run_askRoom]
    rw[if_neg (fun h=>t4 h.2),← hsv,hold w1 hcell]
    simp only[Result.andThen_ok,Bool.not_false,if_true,hy w1 hcell,hzr,newRow,Sem.run_bind,run_newObj,Sem.run_pure,hcell]
  ·have h1:=R.mem.heap_eq (w':=w1) hcell (by rw[hw1];exact⟨rfl,rfl⟩)
   have hsz:(old.toArray++xs.toArray).size=(len+k) * s:=by simp[hol,hxl,Nat.add_mul]
   have hal:=h1.alloc R.n0 (old.toArray++xs.toArray++Builtin.zeroCells zv.cells (cap - (len+k))) e (0,0) (ol++l)
    (w':={ w1 with heap:=w.heap.push (.cells (old.toArray++xs.toArray++Builtin.zeroCells zv.cells (cap - (len+k))) e) }) (by rw[hcell]) ⟨rfl,rfl⟩ (.inl rfl)
    (by simp[← SV.isL_length ho,← SV.isL_length hx]) (fun j v hj=>by
     have hall:=n8 ho hx
     obtain⟨x,r1,r2⟩:=SV.isL_get hall j v hj
     have hjl:j < (old++xs).length:=by
      rcases Nat.lt_or_ge j (old++xs).length with h|h
      ·exact h
      ·rw[List.getElem?_eq_none h] at r1;cases r1
     refine⟨x,?_,r2,?_⟩
     ·rw[Array.getElem?_append_left (by simpa using hjl)]
      simpa using r1
     ·rcases List.mem_append.1 (List.mem_of_getElem? r1) with h|h
      ·exact ho1 x h
      ·exact hx1 x h)
   have hsub:=hal.sub (mem':=(n,⟨.own e,ol++l⟩) :: m') (nxt':=n+1) (fun x hx=>by
    rcases List.mem_cons.1 hx with h|h
    ·exact h ▸ List.mem_cons_self
    ·exact List.mem_cons_of_mem _ (hm x h)) (Nat.le_refl _)
   refine⟨_,_,_,_,dO.le_set (R.mem.fresh _ (Nat.le_refl _)),hK,?_,hsub,by have:=R.n0;omega⟩
   simp only[SV.is]
   refine⟨_,some ⟨w.heap.size,0,none⟩,by rw[hcell];exact iL,?_,.inl rfl⟩
   congr 1
   simp only[Option.getD_none,Nat.sub_zero]
   have hzl:(old.toArray++xs.toArray++Builtin.zeroCells zv.cells (cap - (len+k))).size=cap * s:=by
    simp only[Array.size_append,List.size_toArray,hol,hxl,Builtin.zeroCells,Array.size_map,Array.size_range,hzs]
    rw[← Nat.add_mul,← Nat.add_mul];congr 1;omega
   rw[hzl,Nat.mul_div_cancel _ (by omega)]
theorem Ty (R:Rel C N ρ fr m n a w) {t u ty e:TypeId} {s bytes:Nat} {o o':Operand} {x y:Opd} (h1:aZ o x=true) (h2:aZ o' y=true)
  (hty:HA C.P t u e s bytes=true) (hk:dP T call fr m n K (.app e s bytes x y)) :
  ∃ z w',(Builtin.append_ #[t,u] ty #[a.eval o,a.eval o']).run C.P w=.ok z w'∧m8 C ρ K z w':=by
 have hv:=cU R h1
 have hv':=cU R h2
 simp only[dP] at hk
 obtain⟨k,l,xs,hk,hx,hx1,hxl,hlen,hfc⟩:=Gy R.mem hk hv' C.P
 have hy:∀ w':World,w'.heap=w.heap→(Builtin.firstCells s k (a.eval o')).run C.P w'=.ok xs.toArray w':=fun w' hw'=>by
  rw[hfc w' hw' k (Nat.le_refl _),List.take_of_length_le (by omega)]
 have hty0:=hty
 unfold HA at hty
 simp only[Bool.and_eq_true,bne_iff_ne,ne_eq] at hty
 obtain⟨⟨⟨⟨t1,t2⟩,t3⟩,t4⟩,t5⟩:=hty
 have ht:C.P.underlying t=some (.slice e):=by
  cases hu:C.P.underlying t with
  | none=>simp[hu] at t1
  | some d=>cases d <;> simp[hu] at t1;subst t1;rfl
 have hu:(∃ q,C.P.underlying u=some (.slice q))∨C.P.underlying u=some .string:=by
  cases hu:C.P.underlying u with
  | none=>simp[hu] at t2
  | some d=>cases d <;> simp[hu] at t2 <;> simp
 have hsize:∀ w:World,(sizeOf e).run C.P w=.ok s w:=fun w=>by
  cases hi:C.P.info? e with
  | none=>simp[hi] at t3
  | some i=>simp[hi] at t3;exact cD (by simp[hi,t3.1.1]) w
 split at hk
 ·rename_i i off s' len cap he
  rw[he] at hv
  obtain⟨L,A,e1,e2,e3⟩:=by simpa only [SV.is] using hv
  obtain⟨rfl,rfl,rfl,hbig,hb20,B,hB,hkd,hl,hK⟩:=hk
  generalize hc:(none:Option Nat).getD ((L.cap - 0) / s')=c at e2 e3
  simp only[Option.getD_none,Nat.sub_zero] at hc
  by_cases hin:len+k≤c
  · -- in place
   have hB':=fM hB
   cases hb:L.blk with
   | none=>
    obtain⟨L',f1,f2⟩:=R.mem.blk i B hB'
    rw[e1] at f1;cases f1
    unfold Blk.okAt at f2;rw[hb] at f2
    have hc0:c=0:=by rw[← hc,f2.2];simp
    have hlen0:len=0:=by omega
    have hk0:k=0:=by omega
    subst hlen0;subst hk0
    have hx0:xs=[]:=by simpa using hxl
    have hA:A=none:=by
     rcases e3 with e3|e3
     ·rw[e3,hb];rfl
     ·exact e3.2.2.2 hb
    have hl0:l=[]:=by have:=SV.isL_length hx;rw[hx0] at this;simpa using this.symm
    refine⟨.slice none 0 c,w,?_,?_⟩
    ·rcases hu with⟨q,hu⟩|hu
     all_goals
      simp[Builtin.append_,bJ ht,bJ hu,e2,hsize,hlen,hA,hy w rfl]
    ·have hm:=R.mem.name R.n0 (m':=rm m i) (fun x hx=>(uV hx).1) (B:=⟨.own e,[]⟩) (L:=L) (by unfold Blk.okAt;rw[hb];exact⟨rfl,f2.2⟩)
      (fun b hb'=>by rw[hb] at hb';cases hb') (fun b hb'=>by rw[hb] at hb';cases hb')
     refine⟨_,_,_,_,dO.le_set (R.mem.fresh _ (Nat.le_refl _)),hK,?_,by simpa [hl0] using hm,by have:=R.n0;omega⟩
     simp only[SV.is]
     exact⟨L,none,iL,by simp[hc],.inl (by rw[hb];rfl)⟩
   | some b=>
    obtain⟨hst,hcp,cs,fz,hh,hsz,hfz⟩:=R.mem.cap hB' hkd e1 hb
    have hcs:c * s'≤L.cap:=by rw[← hc];exact Nat.div_mul_le_self _ _
    have hle:(len+k) * s'≤c * s':=Nat.mul_le_mul_right _ hin
    rw[Nat.add_mul] at hle
    obtain⟨w',cs',r1,r2,r3,r4,r5,r6,r7,r8,r9⟩:=qJ (P:=C.P) (b:=b) (o:=len * s') xs 0 w cs hh (by omega) hfz hx1
    have hcells:=tT R.mem hB e1 hb
    rw[hst] at hcells
    have hlx:=SV.isL_length hx
    have hwr:=R.mem.write hB' hkd e1 hb cs' fz (B.cells.take (len * s')++l) r2 r7 r9 r8 (by omega) (by rw[r3];exact hfz) (by simp;omega) (fun j v hj=>by
     by_cases hjl:j < len * s'
     ·rw[List.getElem?_append_left (by simp;omega),List.getElem?_take_of_lt hjl] at hj
      obtain⟨z,g1,g2,g3⟩:=hcells j v hj
      exact⟨z,by rw[r4 j (by omega)];rw[gW hh,Nat.zero_add] at g1;exact g1,g2,g3⟩
     ·have hto:(List.take (len * s') B.cells).length=len * s':=by simp;omega
      rw[List.getElem?_append_right (by omega),hto] at hj
      obtain⟨z,g1,g2⟩:=SV.isL_get hx _ v hj
      refine⟨z,?_,g2,hx1 z (List.mem_of_getElem? g1)⟩
      have hjx:j - len * s' < xs.length:=by
       rcases Nat.lt_or_ge (j - len * s') xs.length with h|h
       ·exact h
       ·rw[List.getElem?_eq_none h] at g1;cases g1
      have:=r6 (j - len * s') hjx
      rw[show len * s'+0+(j - len * s')=j by omega] at this
      rw[this];exact g1)
    obtain⟨L',f1,f2⟩:=hwr.blk i ⟨.own e,B.cells.take (len * s')++l⟩ (by unfold bC;exact List.mem_map.2 ⟨(i,B),hB',by simp⟩)
    rw[e1] at f1;cases f1
    have hsub:∀ x∈rm m i,x∈bC m i ⟨.own e,B.cells.take (len * s')++l⟩:=fun x hx=>by
     obtain⟨g1,g2⟩:=uV hx
     unfold bC;exact List.mem_map.2 ⟨x,g1,by simp[g2]⟩
    have hm:=hwr.name R.n0 (m':=rm m i) hsub f2
     (fun b' hb' j B' L' hj hL'=>R.mem.apart i B j B' L L' b' hB' (uV hj).1 (Ne.symm (uV hj).2) (s6 hkd) e1 hL' hb')
     (fun b' hb'=>R.mem.wrt i B L b' hB' (s6 hkd) e1 hb')
    refine⟨.slice A (len+k) c,w',?_,_,_,_,_,dO.le_set (R.mem.fresh _ (Nat.le_refl _)),hK,?_,hm,by have:=R.n0;omega⟩
    ·have hstore:∀ A',A=some A'→(storeCells (A'.add (len * s')) xs).run C.P w=.ok () w':=by
      intro A' hA'
      rcases e3 with e3|e3
      ·rw[hA',hb] at e3
       simp only[Option.map_some,Option.some.injEq] at e3
       rw[e3,Addr.add_mk,hst];simpa using r1
      ·have hk0:k=0:=by omega
       have hx0:xs=[]:=by rw[hk0] at hxl;simpa using hxl
       rw[hx0] at r1 ⊢
       have:w'=w:=by
        have:=r1;simp[storeCells] at this;exact this.symm
       rw[this];rfl
     have hnone:A=none→w'=w:=by
      intro hA
      rcases e3 with e3|e3
      ·rw[hA,hb] at e3;cases e3
      ·rw[e3.2.2.1 hA] at hb;cases hb
     rcases hu with⟨q,hu⟩|hu
     all_goals
      cases A with
      | none=>
       rw[hnone rfl]
       simp[Builtin.append_,bJ ht,bJ hu,e2,hsize,hlen,hin,hy w rfl]
      | some A'=>
       simp[Builtin.append_,bJ ht,bJ hu,e2,hsize,hlen,hin,hy w rfl,hstore A' rfl]
    ·simp only[SV.is]
     refine⟨L,A,iL,by simp[hc],?_⟩
     rcases e3 with e3|e3
     ·exact .inl e3
     ·refine .inr ⟨by omega,by simp[hc];omega,e3.2.2⟩
  · -- a new array
   have hB':=fM hB
   have hsl:vS m s' (.slc i 0 s' len none) (fun k l=>k=len∧l=B.cells.take (len * s')):=by
    simp only[vS]
    refine⟨trivial,B,hB,by omega,?_⟩
    simp
   obtain⟨k2,ol,old,⟨q1,q2⟩,ho,ho1,hol,_,hofc,_⟩:=Ce R.mem hsl hv C.P
   subst q1;subst q2
   rw[e2]
   refine HB R hty0 rfl hlen hy hx hx1 hxl (fun w' hw'=>?_) ho ho1 hol hbig hb20 hin (fun x hx=>(uV hx).1) hK
   have:=hofc w' hw' k2 (Nat.le_refl _)
   rw[e2] at this
   rw[this,List.take_of_length_le (by omega)]
 ·rename_i he
  rw[he] at hv
  have e2:=by simpa only [SV.is] using hv
  obtain⟨hbig,hb20,hK⟩:=hk
  by_cases hk0:k=0
  ·subst hk0
   have hx0:xs=[]:=by simpa using hxl
   have hl0:l=[]:=by have:=SV.isL_length hx;rw[hx0] at this;simpa using this.symm
   refine⟨.slice none 0 0,w,?_,?_⟩
   ·rcases hu with⟨q,hu⟩|hu
    all_goals
     simp[Builtin.append_,bJ ht,bJ hu,e2,hsize,hlen,hy w rfl]
   ·have hm:=R.mem.name R.n0 (m':=m) (fun x hx=>hx) (B:=⟨.own e,[]⟩) (L:=⟨none,0,0⟩) (by unfold Blk.okAt;exact⟨rfl,rfl⟩)
     (fun b hb'=>by cases hb') (fun b hb'=>by cases hb')
    refine⟨_,_,_,_,dO.le_set (R.mem.fresh _ (Nat.le_refl _)),hK,?_,by simpa [hl0] using hm,by have:=R.n0;omega⟩
    simp only[SV.is]
    exact⟨_,none,iL,by simp,.inl rfl⟩
  ·rw[e2]
   exact HB R hty0 rfl hlen hy hx hx1 hxl (fun w' hw'=>by simp[Builtin.firstCells]) (old:=[]) (ol:=[]) (by simp[SV.isL]) (by simp) (by simp) (by simpa using hbig) hb20 (by omega) (fun x hx=>hx) (by simpa using hK)
 ·exact hk.elim
theorem RL (R:Rel C N ρ fr m n a w) {t u ty e:TypeId} {s:Nat} {o o':Operand} {x y:Opd} (h1:aZ o x=true) (h2:aZ o' y=true)
  (ht:C.P.underlying t=some (.slice e)) (hs:iG C.P e=some s) (oJ:s≠0) (hk:dP T call fr m n K (.copy s x y)) :
  ∃ z w',(Builtin.copy_ #[t,u] ty #[a.eval o,a.eval o']).run C.P w=.ok z w'∧m8 C ρ K z w':=by
 have hv:=cU R h1
 have hv':=cU R h2
 simp only[dP] at hk
 obtain⟨k,l,xs,hk,hx,hx1,hxl,hlen,hfc⟩:=Gy R.mem hk hv' C.P
 have hsize:∀ w:World,(sizeOf e).run C.P w=.ok s w:=fun w=>cD hs w
 split at hk
 ·rename_i i off s' len cap he
  rw[he] at hv
  obtain⟨L,A,e1,e2,e3⟩:=by simpa only [SV.is] using hv
  obtain⟨rfl,B,e',hB,hkd,hl,hK⟩:=hk
  have hB':=fM hB
  have hmin:min k len * s'≤k * s':=Nat.mul_le_mul_right _ (Nat.min_le_left _ _)
  have hmin':min k len * s'≤len * s':=Nat.mul_le_mul_right _ (Nat.min_le_right _ _)
  have hlx:=SV.isL_length hx
  have hlt:(l.take (min k len * s')).length=min k len * s':=by simp;omega
  have hx':=wD (min k len * s') hx
  cases hb:L.blk with
  | none=>
   obtain⟨L',f1,f2⟩:=R.mem.blk i B hB'
   rw[e1] at f1;cases f1
   unfold Blk.okAt at f2;rw[hb] at f2
   have hlen0:len * s'=0:=by rw[f2.1] at hl;simp at hl;omega
   have hlen00:len=0:=by
    rcases Nat.mul_eq_zero.1 hlen0 with h|h
    ·exact h
    ·exact (oJ h).elim
   subst hlen00
   have hA:A=none:=by
    rcases e3 with e3|e3
    ·rw[e3,hb];rfl
    ·exact e3.2.2.2 hb
   have hc:=hfc w rfl 0 (Nat.zero_le _)
   refine⟨.int .i64 (min k 0:Nat),w,?_,ρ,_,_,_,dO.le_refl _,hK,by simp only[SV.is],?_,R.n0⟩
   ·simp at hc
    simp[Builtin.copy_,bJ ht,e2,hlen,hsize,hA,goInt,hc]
   ·have hupd:bC m i ⟨.own e',aF B.cells off (List.take (min k 0 * s') l)⟩=m.map (fun x=>if x.1=i then (i,⟨.own e',[]⟩) else x):=by
     unfold bC;simp[aF,f2.1]
    rw[hupd]
    have hnone:∀ j B',(j,B')∈m.map (fun x=>if x.1=i then (i,(⟨.own e',[]⟩:Blk)) else x)→(j=i∧B'=⟨.own e',[]⟩)∨(j≠i∧(j,B')∈m):=by
     intro j B' hj
     obtain⟨y,hy,hye⟩:=List.mem_map.1 hj
     split at hye
     ·cases hye;exact .inl ⟨rfl,rfl⟩
     ·rename_i hne;subst hye;exact .inr ⟨hne,hy⟩
    constructor
    ·intro j B' hj
     rcases hnone j B' hj with⟨rfl,rfl⟩|⟨_,hj⟩
     ·exact⟨L,e1,by unfold Blk.okAt;rw[hb];exact⟨rfl,f2.2⟩⟩
     ·exact R.mem.blk j B' hj
    ·intro j B' q B'' L1 L2 b hj hq hjq hown g1 g2 g3
     rcases hnone j B' hj with⟨rfl,rfl⟩|⟨hji,hj⟩
     ·rw[e1] at g1;cases g1;rw[hb] at g3;cases g3
     ·rcases hnone q B'' hq with⟨rfl,rfl⟩|⟨hqi,hq⟩
      ·rw[e1] at g2;cases g2;rw[hb];simp
      ·exact R.mem.apart j B' q B'' L1 L2 b hj hq hjq hown g1 g2 g3
    ·exact R.mem.fresh
    ·intro j B' L1 b hj hown g1 g2
     rcases hnone j B' hj with⟨rfl,rfl⟩|⟨hji,hj⟩
     ·rw[e1] at g1;cases g1;rw[hb] at g2;cases g2
     ·exact R.mem.wrt j B' L1 b hj hown g1 g2
    ·exact R.mem.size
    ·exact R.mem.frame
    ·exact R.mem.keep
    ·exact R.mem.side
  | some b=>
   have hst:=(R.mem.cap hB' hkd e1 hb).1
   obtain⟨w',r1,r2⟩:=E3 R.mem hB' hkd e1 hb hx' (fun y hy=>hx1 y (List.mem_of_mem_take hy)) (o:=off) (by rw[hlt];omega) C.P
   have hc:=hfc w rfl (min k len) (Nat.min_le_left _ _)
   refine⟨.int .i64 (min k len:Nat),w',?_,ρ,_,_,_,dO.le_refl _,hK,by simp only[SV.is],r2,R.n0⟩
   have hstore:∀ A',A=some A'→(storeCells A' (xs.take (min k len * s'))).run C.P w=.ok () w':=by
    intro A' hA'
    rcases e3 with e3|e3
    ·rw[hA',hb] at e3
     simp only[Option.map_some,Option.some.injEq] at e3
     rw[e3,hst,Nat.zero_add];exact r1
    ·have:len=0:=e3.1
     subst this
     simp only[Nat.min_zero,Nat.zero_mul,List.take_zero] at r1 ⊢
     have:w'=w:=by simp[storeCells] at r1;exact r1.symm
     rw[this];rfl
   cases A with
   | none=>
    rcases e3 with e3|e3
    ·rw[hb] at e3;cases e3
    ·rw[e3.2.2.1 rfl] at hb;cases hb
   | some A'=>
    simp only[Builtin.copy_,List.getElem?_toArray,List.getElem?_cons_zero,List.getElem?_cons_succ,Sem.run_bind,bJ ht,Result.andThen_ok,e2,hlen,hsize,Sem.run_pure,goInt]
    rw[show Nat.min k len=min k len from rfl,hc]
    simp only[Result.andThen_ok,List.toList_toArray,hstore A' rfl]
 ·exact hk.elim
end
open Go.WideMaps
def NA (P:Program) (e:TypeId):Bool:=match P.underlying e with|some (.int .u8)=>true|_=>false
def qL (P:Program) (t:TypeId):Option (Option Nat):=
 match P.underlying t with
 | some (.map k _)=>match P.underlying k with
  | some .string=>some none
  | some (.array n e)=>if (NA P e && P.cellsOf e==1 && P.cellsOf k==n && P.types.size != 0)=true then some (some n) else none
  | _=>none
 | _=>none
theorem Ls {P:Program} {e:TypeId} (h:NA P e=true):P.underlying e=some (.int .u8):=by
 unfold NA at h
 split at h
 ·assumption
 ·cases h
theorem HC {α β:Type} {f:α→Option β}:∀ (l:List α),(∀ x∈l,∃ y,f x=some y)→∃ ys,l.mapM f=some ys
 | [],_=>⟨[],rfl⟩
 | x :: l,h=>by
  obtain⟨y,hy⟩:=h x List.mem_cons_self
  obtain⟨ys,hys⟩:=HC l fun z hz=>h z (List.mem_cons_of_mem _ hz)
  exact⟨y :: ys,by simp[List.mapM_cons,hy,hys]⟩
theorem RM {P:Program} {t:TypeId} {a:Option Nat} (h:qL P t=some a) :
  ∃ k v,P.underlying t=some (.map k v)∧KeyLaw P k∧∀ kv:KV,kv.ok a→∃ l,keyOf P k kv.val=some l:=by
 unfold qL at h
 split at h
 ·rename_i k v ht
  refine⟨k,v,ht,?_⟩
  split at h
  ·rename_i hk
   cases h
   refine⟨string_law hk,fun kv hkv=>?_⟩
   cases kv with
   | str s=>exact⟨_,keyOf_string_mk hk (by simpa [ByteArray.size,maxLen,KV.ok,cH] using hkv)⟩
   | arr l=>exact hkv.elim
  ·rename_i n e hk
   split at h
   ·rename_i hc
    cases h
    simp only[Bool.and_eq_true,beq_iff_eq,bne_iff_ne,ne_eq] at hc
    obtain⟨⟨⟨c1,c2⟩,c3⟩,c4⟩:=hc
    have he:=Ls c1
    have A:ArrKey P k e n:=⟨hk,by unfold Program.plainKey;rw[he],c2,c3⟩
    refine⟨A.law,fun kv hkv=>?_⟩
    cases kv with
    | str s=>exact hkv.elim
    | arr l=>
     simp only[KV.ok] at hkv
     obtain⟨sz,hsz⟩:∃ sz,P.types.size=sz+1:=⟨P.types.size - 1,by omega⟩
     have hkt:=A.keyType ⟨sz,hsz⟩
     have hsize:(KV.val (.arr l)).cells.toList=l.map fun c=>Value.int .u8 (c.toNat:Int):=by simp[KV.val,Value.cells]
     have hform:(KV.val (.arr l)).formed P k=true:=by
      simp[KV.val,Value.formed,hk,c3,hkv]
     unfold keyOf
     rw[hk]
     simp only[hkt,hform,Bool.and_self,if_true,hsize]
     have:∃ ys,P.keyLits (P.types.size+1) k (l.map fun c=>Value.int .u8 (c.toNat:Int))=some ys:=by
      unfold Program.keyLits
      simp only[hk]
      rw[if_pos (by simp[c3,hkv])]
      obtain⟨ys,hys⟩:=HC (f:=fun i=>P.keyLits P.types.size e (((l.map fun c=>Value.int .u8 (c.toNat:Int)).drop (i * P.cellsOf e)).take (P.cellsOf e))) (List.range n) (fun i hi=>by
       simp only[List.mem_range] at hi
       rw[c2,hsz]
       unfold Program.keyLits
       have hil:i < l.length:=by omega
       have e1:((l.map fun c=>Value.int .u8 (c.toNat:Int)).drop (i * 1)).take 1=[Value.int .u8 (l[i].toNat:Int)]:=by
        rw[Nat.mul_one,List.drop_eq_getElem_cons (by simpa using hil)];simp only[List.getElem_map,List.take_succ_cons,List.take_zero]
       have hwf:(Lit.int .u8 (l[i].toNat:Int)).wf=true:=by
        have:=l[i].toNat_lt
        simp only[Lit.wf,IntKind.min,IntKind.max,IntKind.signed,IntKind.bits]
        simp;omega
       simp only[he,e1,hwf,and_self,if_true]
       exact⟨_,rfl⟩)
      exact⟨_,by rw[hys];rfl⟩
     obtain⟨ys,hys⟩:=this
     exact⟨_,by rw[hys];rfl⟩
   ·cases h
  ·cases h
 ·cases h
theorem KV.val_inj {a b:KV} (h:a.val=b.val):a=b:=by
 cases a <;> cases b <;> simp only[KV.val] at h
 ·simp at h;rw[h]
 ·cases h
 ·cases h
 ·rename_i l l'
  simp at h
  congr 1
  induction l generalizing l' with
  | nil=>cases l' <;> simp_all
  | cons c l ih=>
   cases l' with
   | nil=>simp at h
   | cons d l'=>
    simp at h
    have:c=d:=UInt8.toNat_inj.1 (by omega)
    rw[this,ih l' h.2]
theorem RN {ρ:dO} {a:Option Nat} {v:SV} {kv:KV} (h:EF a v=some kv) {x:Value} (hx:v.is ρ x):x=kv.val∧kv.ok a:=by
 unfold EF at h
 split at h
 ·split at h
  ·cases h
   simp only[SV.is] at hx
   exact⟨hx,by assumption⟩
  ·cases h
 ·rename_i n l
  split at h
  ·rename_i hc
   cases h
   obtain⟨l',h1,h2',h3⟩:=by simpa only [SV.is] using hx
   refine⟨?_,by simp[KV.ok,hc.1]⟩
   rw[h3]
   simp only[KV.val]
   congr 2
   have:=hc.2
   clear hx h3 hc h2'
   induction l generalizing l' with
   | nil=>simp only[SV.isL] at h1;rw[h1];rfl
   | cons v l ih=>
    simp only[SV.isL] at h1
    obtain⟨y,ys,rfl,g1,g2⟩:=h1
    simp only[List.all_cons,Bool.and_eq_true] at this
    rw[ih ys g2 this.2]
    simp only[List.map_cons]
    congr 1
    have hb:=this.1
    unfold mH at hb
    split at hb
    ·rename_i k
     simp only[decide_eq_true_eq] at hb
     simp only[SV.is] at g1
     rw[g1];simp only[byteOf]
     congr 1
     rw[UInt8.toNat_ofNat']
     omega
    ·cases hb
  ·cases h
 ·cases h
theorem E5 {m:bL} {i:Nat} {a:Option Nat} {ks:List KV} (h:mI m i=some (a,ks)):∃ cs,rd m i=some ⟨.map a ks,cs⟩:=by
 unfold mI at h
 split at h
 ·cases h;exact⟨_,by assumption⟩
 ·cases h
section
variable {C:Ctx} {N:Nat} {ρ:dO} {fr:Fr} {m:bL} {n:Nat} {a:Act} {w:World} {K:Kt} {T:List (Nat × List SV)} {call:bG}
theorem NB (R:Rel C N ρ fr m n a w) {t:TypeId} {q:Option Nat} (hk:dP T call fr m n K (.mkmap q)) :
  ∃ y w',(Instr.makeMap t none).run C.P w=.ok y w'∧m8 C ρ K y w':=by
 simp only[dP] at hk
 have hw:({ w with heap:=w.heap.push (.map #[] 0) }:World).heap=w.heap.push (.map #[] 0):=rfl
 have h1:=R.mem.push (w':={ w with heap:=w.heap.push (.map #[] 0) }) hw ⟨rfl,rfl⟩
 have hlt:∀ j B' L' b,(j,B')∈m→ρ j=some L'→L'.blk=some b→b < w.heap.size:=fun j B' L' b hj hL hb=>by
  obtain⟨L,g1,g2⟩:=R.mem.blk j B' hj
  rw[hL] at g1;cases g1
  unfold Blk.okAt at g2;rw[hb] at g2;exact g2.1
 have h2:=h1.name R.n0 (m':=m) (fun x hx=>hx) (B:=⟨.map q [],[]⟩) (L:=⟨some w.heap.size,0,0⟩)
  (by
   unfold Blk.okAt
   refine⟨by simp,fun j v hj=>by simp at hj,rfl,rfl,⟨#[],0,by simp,rfl⟩,by simp⟩)
  (fun b hb j B' L' hj hL' hb'=>by
   cases hb
   exact absurd (hlt j B' L' _ hj hL' hb') (Nat.lt_irrefl _))
  (fun b hb=>by cases hb;exact .inl R.mem.size)
 refine⟨.map (some w.heap.size),{ w with heap:=w.heap.push (.map #[] 0) },?_,_,_,_,_,dO.le_set (R.mem.fresh _ (Nat.le_refl _)),hk,?_,h2,by have:=R.n0;omega⟩
 ·simp only[Instr.makeMap,Sem.run_bind,run_newObj,Result.andThen_ok,Sem.run_pure]
 ·simp only[SV.is]
  unfold dO.set
  exact⟨_,_,if_pos rfl,rfl,rfl⟩
theorem RO (R:Rel C N ρ fr m n a w) {o:Operand} {x:Opd} {t ty k v:TypeId} (h1:aZ o x=true)
  (h2:C.P.underlying t=some (.map k v)) (hk:dP T call fr m n K (.mlen x)) :
  ∃ z,(Builtin.len_ #[t] ty #[a.eval o]).run C.P w=.ok z w∧m8 C ρ K z w:=by
 have hv:=cU R h1
 simp only[dP] at hk
 split at hk
 ·rename_i i he
  rw[he] at hv
  obtain⟨L,b,e1,e2,e3⟩:=by simpa only [SV.is] using hv
  obtain⟨q,ks,hks,hk⟩:=hk
  obtain⟨cs,hB⟩:=E5 hks
  obtain⟨L',g1,g2⟩:=R.mem.blk i _ (fM hB)
  rw[e1] at g1;cases g1
  unfold Blk.okAt at g2;rw[e2] at g2;simp only at g2
  obtain⟨_,_,_,_,⟨es,clock,hh,hkeys⟩,_⟩:=g2
  have hsz:es.size=ks.length:=by
   have:=congrArg List.length hkeys;simpa using this
  exact⟨_,by simp[Builtin.len_,bJ h2,e3,goInt,Go.MapKept.run_getObj_map hh];rfl,bE R hk (by simp[SV.is,hsz])⟩
 ·exact hk.elim
theorem RP (R:Rel C N ρ fr m n a w) {o o' o'':Operand} {x y:Opd} {t:TypeId} {q:Option Nat} (h1:aZ o x=true) (h2:aZ o' y=true)
  (ht:qL C.P t=some q) (hk:dP T call fr m n K (.mput q x y)) :
  ∃ w',(Instr.mapUpdate t (a.eval o) (a.eval o') (a.eval o'')).run C.P w=.ok () w'∧m8 C ρ K undef w':=by
 have hv:=cU R h1
 have hv':=cU R h2
 simp only[dP] at hk
 split at hk
 ·rename_i i he
  rw[he] at hv
  obtain⟨L,b,e1,e2,e3⟩:=by simpa only [SV.is] using hv
  obtain⟨ks,kv,hks,hkv,hk⟩:=hk
  obtain⟨cs,hB⟩:=E5 hks
  obtain⟨L',g1,g2⟩:=R.mem.blk i _ (fM hB)
  rw[e1] at g1;cases g1
  unfold Blk.okAt at g2;rw[e2] at g2;simp only at g2
  obtain⟨hlt,_,hst,hcs,⟨es,clock,hh,hkeys⟩,hoks⟩:=g2
  obtain⟨hx,hok⟩:=RN hkv hv'
  obtain⟨k,vt,hu,law,hkey⟩:=RM ht
  obtain⟨l,hl⟩:=hkey kv hok
  have hl':keyOf C.P k (a.eval o')=some l:=by rw[hx];exact hl
  have hes:∀ e∈es.toList,∃ l,keyOf C.P k e.key=some l:=fun e he=>by
   have:e.key∈es.toList.map (·.key):=List.mem_map.2 ⟨e,he,rfl⟩
   rw[hkeys] at this
   obtain⟨kv',g1,g2⟩:=List.mem_map.1 this
   rw[← g2];exact hkey kv' (hoks kv' g1)
  have RZ:∀ es' clock',(es'.toList.map (·.key)=(Bo ks kv).map KV.val) →
    m8 C ρ K undef { w with heap:=w.heap.setIfInBounds b (.map es' clock') }:=by
   intro es' clock' hkeys'
   have hset:=Go.MapKept.heap_set (o':=.map es' clock') hh
   have hm:=R.mem.replace (w':={ w with heap:=w.heap.setIfInBounds b (.map es' clock') }) (fM hB) (B':=⟨.map q (Bo ks kv),[]⟩) (by unfold Blk.own;simp) e1 e2 (by
    unfold Blk.okAt
    rw[e2]
    refine⟨by simpa using hlt,fun j v hj=>by simp at hj,hst,rfl,⟨es',clock',hset.1,hkeys'⟩,?_⟩
    intro kv' hkv'
    unfold Bo at hkv'
    split at hkv'
    ·exact hoks kv' hkv'
    ·rcases List.mem_append.1 hkv' with h|h
     ·exact hoks kv' h
     ·simp at h;rw[h];exact hok) (by simp) ⟨rfl,rfl⟩ hset.2
   exact⟨ρ,.any,_,_,dO.le_refl _,hk,trivial,hm,R.n0⟩
  rcases law.find w hl' es.toList hes with⟨f1,f2⟩|⟨j,e,f1,f2,f3⟩
  ·refine⟨_,?_,RZ (es.push { key:=a.eval o',val:=a.eval o'',born:=clock }) (clock+1) ?_⟩
   ·simp[Instr.mapUpdate,bJ hu,e3,Go.MapKept.run_getObj_map hh,law.check w false hl',f1,Go.MapKept.run_setObj_map _ hh,Result.andThen]
   ·have hni:kv ∉ ks:=fun hin=>by
     have:kv.val∈es.toList.map (·.key):=by rw[hkeys];exact List.mem_map.2 ⟨kv,hin,rfl⟩
     obtain⟨e,g1,g2⟩:=List.mem_map.1 this
     exact f2 e g1 (by rw[g2,hx])
    unfold Bo
    rw[if_neg hni]
    simp[hkeys,hx]
  ·have hj:es[j]?=some e:=by simpa using f2
   refine⟨_,?_,RZ (es.modify j fun e=>{ e with key:=a.eval o',val:=a.eval o'' }) clock ?_⟩
   ·simp[Instr.mapUpdate,bJ hu,e3,Go.MapKept.run_getObj_map hh,law.check w false hl',f1,hj,f3,law.stays w hl',Go.MapKept.run_setObj_map _ hh,Result.andThen]
   ·rw[Go.MapKept.modify_keys j _ (fun e' he'=>by rw[hj] at he';cases he';exact f3.symm),hkeys]
    have hin:kv∈ks:=by
     have:e.key∈es.toList.map (·.key):=List.mem_map.2 ⟨e,List.mem_of_getElem? f2,rfl⟩
     rw[hkeys,f3,hx] at this
     obtain⟨kv',g1,g2⟩:=List.mem_map.1 this
     rw[KV.val_inj g2] at g1;exact g1
    unfold Bo
    rw[if_pos hin]
 ·exact hk.elim
theorem Tz (R:Rel C N ρ fr m n a w) {t e:TypeId} {o:Operand} {x:Opd} (h1:aZ o x=true)
  (ht:C.P.underlying t=some (.slice e)) (he:C.P.underlying e=some (.int .u8)) (hk:dP T call fr m n K (.mk8 x)) :
  ∃ y w',(convert t t (a.eval o)).run C.P w=.ok y w'∧m8 C ρ K y w':=by
 have hv:=cU R h1
 simp only[dP] at hk
 split at hk
 ·rename_i i off s len cap hx
  rw[hx] at hv
  have hv0:=hv
  obtain⟨L,A,e1,e2,e3⟩:=by simpa only [SV.is] using hv
  obtain⟨hl0,B,e',hB,hkd,hpos,hk⟩:=hk
  obtain⟨b,hb⟩:∃ b,L.blk=some b:=by
   obtain⟨L',g1,g2⟩:=R.mem.blk i B (fM hB)
   rw[e1] at g1;cases g1
   unfold Blk.okAt at g2
   cases hb:L.blk with
   | none=>rw[hb] at g2;rw[g2.1] at hpos;simp at hpos
   | some b=>exact⟨b,rfl⟩
  have hA:A=some ⟨b,L.st+off,none⟩:=by
   rcases e3 with e3|e3
   ·rw[hb] at e3;exact e3
   ·omega
  obtain⟨hst,hcp,cs,fz,hh,hsz,hfz⟩:=R.mem.cap (fM hB) hkd e1 hb
  have hcells:=tT R.mem hB e1 hb
  obtain⟨lo,hi⟩:=fz
  have hfr:(w.freeze ⟨b,cs.size,none⟩ 1).heap[b]?=some (.cells cs e' (if lo==hi then (cs.size,cs.size+1) else (min lo cs.size,max hi (cs.size+1)))):=by
   unfold World.freeze
   rw[if_neg (by decide)]
   simp only[Array.getElem?_modify,if_true,hh,Option.map_some]
  have hold:∀ b',b'≠b→(w.freeze ⟨b,cs.size,none⟩ 1).heap[b']?=w.heap[b']?:=by
   intro b' hb'
   unfold World.freeze
   rw[if_neg (by decide)]
   simp only[Array.getElem?_modify,Ne.symm hb',if_false]
  have hs':(w.freeze ⟨b,cs.size,none⟩ 1).heap.size=w.heap.size:=by
   unfold World.freeze;rw[if_neg (by decide)];simp
  have hsd:((w.freeze ⟨b,cs.size,none⟩ 1).os,(w.freeze ⟨b,cs.size,none⟩ 1).tape)=(w.os,w.tape)∧(w.freeze ⟨b,cs.size,none⟩ 1).output=w.output:=by
   unfold World.freeze;rw[if_neg (by decide)];exact⟨rfl,rfl⟩
  have hm:=R.mem.write (fM hB) hkd e1 hb cs _ B.cells hfr hs' hsd hold hsz (by
   simp only at hfz ⊢
   split
   ·right;simp
   ·rename_i hne
    simp only[beq_iff_eq] at hne
    right
    simp only
    omega) (by omega) (fun j v hj=>by
    obtain⟨x,q1,q2,q3⟩:=hcells j v hj
    rw[gW hh,hst,Nat.zero_add] at q1
    exact⟨x,q1,q2,q3⟩)
  refine⟨a.eval o,_,?_,ρ,_,_,_,dO.le_refl _,hk,by simp only[SV.is];exact⟨L,A,e1,e2,e3⟩,hm,R.n0⟩
  have hsh:w.shape? b=some (e',cs.size):=by unfold World.shape?;rw[hh]
  rw[e2,hA]
  simp only[convert,Sem.run_bind,bJ ht,Result.andThen_ok,bJ he,beq_self_eq_true,markStringish,run_shape,hsh,run_freeze,Sem.run_pure]
 ·exact hk.elim
theorem RQ (R:Rel C N ρ fr m n a w) {o:Operand} {x:Opd} {t ty e:TypeId} (h1:aZ o x=true)
  (h2:C.P.underlying t=some (.slice e)) (hk:dP T call fr m n K (.capN x)) :
  ∃ z,(Builtin.cap_ #[t] ty #[a.eval o]).run C.P w=.ok z w∧m8 C ρ K z w:=by
 have hv:=cU R h1
 simp only[dP] at hk
 split at hk
 ·rename_i he
  rw[he] at hv
  have e:=by simpa only [SV.is] using hv
  exact⟨_,by simp[Builtin.cap_,bJ h2,e,goInt];rfl,bE R hk (by simp[SV.is])⟩
 ·exact hk.elim
def JQ (P:Program) (t u e:TypeId) (s bytes:Nat) (z:List SV):Bool:=
 (match P.underlying t with|some (.slice e')=>e'==e|_=>false) &&
 (match P.underlying u with|some (.int _)=>true|_=>false) &&
 (match P.info? e with|some i=>i.size==s && i.bytes==bytes && (match i.zero with|some zv=>pH z zv.cells.toList|none=>false)|none=>false) && z.length==s && bytes != 0 && s != 0
theorem RR {zv:Value} {z:List SV} {s:Nat} (hzs:z.length=s) (oJ:s≠0) (hzz:pH z zv.cells.toList=true) (k:Nat) :
  SV.isL ρ (Mr k z) (Builtin.zeroCells zv.cells k).toList∧∀ y∈(Builtin.zeroCells zv.cells k).toList,y.oneCell'=true:=by
 obtain⟨q1,q2⟩:=pY (ρ:=ρ) hzz
 have hzl:zv.cells.size=s:=by have:=SV.isL_length q1;simp at this;omega
 constructor
 ·refine SV.isL_of_get (by simp[Builtin.zeroCells,Mr,hzs,hzl]) fun j v hj=>?_
  simp only[Mr,List.getElem?_map,Option.map_eq_some_iff,hzs] at hj
  obtain⟨j',hj',rfl⟩:=hj
  have hlt:j < k * s:=by
   rcases Nat.lt_or_ge j (k * s) with h|h
   ·exact h
   ·rw[List.getElem?_eq_none (by simpa using h)] at hj';cases hj'
  rw[List.getElem?_eq_getElem (by simpa using hlt)] at hj'
  simp at hj';subst hj'
  have hm:j % s < z.length:=by rw[hzs];exact Nat.mod_lt _ (Nat.pos_of_ne_zero oJ)
  obtain⟨x,r1,r2⟩:=SV.isL_get q1 (j % s) z[j % s] (List.getElem?_eq_getElem hm)
  refine⟨x,?_,?_⟩
  ·have hm':j % s < zv.cells.size:=by omega
   simp only[Builtin.zeroCells,Array.getElem?_toList,Array.getElem?_map]
   simp[hlt,hzl]
   simp[hm'] at r1
   rw[getElem!_pos zv.cells (j % s) hm'];exact r1
  ·rw[List.getD_eq_getElem?_getD,List.getElem?_eq_getElem hm];exact r2
 ·intro y hy
  simp only[Builtin.zeroCells,Array.toList_map,Array.toList_range,List.mem_map,List.mem_range] at hy
  obtain⟨j,hj,rfl⟩:=hy
  have hm':j % zv.cells.size < zv.cells.size:=Nat.mod_lt _ (by omega)
  rw[getElem!_pos zv.cells _ hm']
  exact q2 _ (by simp)
theorem RS (R:Rel C N ρ fr m n a w) {t u ty e:TypeId} {s bytes:Nat} {z:List SV} {o o':Operand} {x y:Opd} (h1:aZ o x=true) (h2:aZ o' y=true)
  (hty:JQ C.P t u e s bytes z=true) (hk:dP T call fr m n K (.appZ e s bytes z x y)) :
  ∃ v w',(Builtin.append_ #[t,u] ty #[a.eval o,a.eval o']).run C.P w=.ok v w'∧m8 C ρ K v w':=by
 have hv:=cU R h1
 simp only[dP] at hk
 obtain⟨kk,k,e1,hk⟩:=oR hk (cU R h2)
 split at hk
 ·rename_i he
  rw[he] at hv
  have e2:a.eval o=.slice none 0 0:=by simpa only [SV.is] using hv
  obtain⟨g1,g2,g3,hK⟩:=hk
  unfold JQ at hty
  simp only[Bool.and_eq_true,bne_iff_ne,ne_eq,beq_iff_eq] at hty
  obtain⟨⟨⟨⟨⟨t1,t2⟩,t3⟩,t4⟩,t5⟩,t6⟩:=hty
  have ht:C.P.underlying t=some (.slice e):=by
   cases hu:C.P.underlying t with
   | none=>simp[hu] at t1
   | some d=>cases d <;> simp[hu] at t1;subst t1;rfl
  obtain⟨q,hu⟩:∃ q,C.P.underlying u=some (.int q):=by
   cases hu:C.P.underlying u with
   | none=>simp[hu] at t2
   | some d=>cases d <;> simp[hu] at t2;exact⟨_,rfl⟩
  cases hi:C.P.info? e with
  | none=>simp[hi] at t3
  | some i=>
   simp only[hi,Bool.and_eq_true,beq_iff_eq] at t3
   obtain⟨⟨q1,q2⟩,q3⟩:=t3
   split at q3
   ·rename_i zv hz
    obtain⟨r1,r2⟩:=RR (ρ:=ρ) t4 t6 q3 k.toNat
    have hzl:zv.cells.size=s:=by have:=SV.isL_length (pY (ρ:=ρ) q3).1;simp at this;omega
    have hsize:∀ w:World,(sizeOf e).run C.P w=.ok s w:=fun w=>cD (by simp[hi,q1]) w
    have hti:∀ w:World,(typeInfo e).run C.P w=.ok i w:=fun w=>by simp[typeInfo,hi]
    have hzr:∀ w:World,(zeroValue e).run C.P w=.ok zv w:=fun w=>by simp[zeroValue,typeInfo,hi,hz]
    have hkb:k.toNat * bytes≤2 ^ 40:=by
     have:((k.toNat * bytes:Nat):Int)=k * bytes:=by rw[Int.natCast_mul,Int.toNat_of_nonneg (by omega)]
     omega
    have hneed:k.toNat≤2 ^ 40:=Nat.le_trans (Nat.le_mul_of_pos_right _ (by omega)) hkb
    have hfit:¬ (Builtin.nextslicecap (0+k.toNat) 0 * bytes > 2 ^ 48):=by
     rw[Nat.zero_add]
     have:=growslice_fits (need:=k.toNat) (old:=0) (bytes:=bytes) (by omega) (by omega)
     omega
    obtain⟨cap,hcapd⟩:∃ cap,cap=(Question.appendCap (0+k.toNat) 0 e).cut (w.tape w.drawn (.appendCap (0+k.toNat) 0 e)):=⟨_,rfl⟩
    have hcap:k.toNat≤cap:=by simp[hcapd,Question.cut]
    obtain⟨w1,hw1⟩:∃ w1:World,w1={ w with drawn:=w.drawn+1 }:=⟨_,rfl⟩
    have hcell:w1.heap=w.heap:=by rw[hw1]
    have hch:(choose (.appendCap (0+k.toNat) 0 e)).run C.P w=.ok cap w1:=by
     rw[hcapd,hw1];simp only[run_choose,Question.forced,Bool.false_eq_true,if_false]
    have hwr:IntKind.i64.wrap k=k:=IntWalk.i64_in _ (by omega)
    have hb0:¬ (i.bytes=0):=by rw[q2];exact t5
    let cells:=#[]++Builtin.zeroCells zv.cells k.toNat++Builtin.zeroCells zv.cells (cap - (0+k.toNat))
    refine⟨.slice (some ⟨w.heap.size,0,none⟩) (0+k.toNat) cap,{ w1 with heap:=w.heap.push (.cells cells e) },?_,?_⟩
    ·have hgrow:¬ (0+k.toNat≤0):=by omega
     have hk0:¬ (k < 0):=by omega
     have hbig:¬ (k * (i.bytes:Int) > 281474976710656):=by rw[q2];omega
     have hks:¬ (k.toNat * s=0):=by
      intro h
      rcases Nat.mul_eq_zero.1 h with h|h
      ·omega
      ·exact t6 h
     unfold Builtin.append_
     simp only[List.getElem?_toArray,List.getElem?_cons_zero,List.getElem?_cons_succ,Sem.run_bind,bJ ht,Result.andThen_ok,e2,hsize,bJ hu,Sem.run_pure,Sem.run_ite,e1,asInt,asIntOf,hwr,hk0,if_true,
      Bool.false_eq_true,if_false,hti]
     have hbig2:¬ (k * (i.bytes:Int) > 2 ^ 48):=by rw[q2];omega
     simp only[hbig2,if_false,Sem.run_pure,Result.andThen_ok,hgrow]
     rw[if_neg (by
      rintro⟨h,_⟩
      have:IntKind.i64.max=9223372036854775807:=rfl
      omega)]
     simp only[Sem.run_pure,Sem.run_bind,Result.andThen_ok,hti,q2,hfit,if_false,hch,run_askRoom,Builtin.firstCells,Bool.not_true,Bool.false_eq_true,hks,hzr,newRow,run_newObj,hcell,cells]
    ·have h1:=R.mem.heap_eq (w':=w1) hcell (by rw[hw1];exact⟨rfl,rfl⟩)
     have hzc:∀ k,(Builtin.zeroCells zv.cells k).size=k * s:=fun k=>by simp[Builtin.zeroCells,hzl]
     have hal:=h1.alloc R.n0 cells e (0,0) (Mr k.toNat z)
      (w':={ w1 with heap:=w.heap.push (.cells cells e) }) (by rw[hcell]) ⟨rfl,rfl⟩ (.inl rfl)
      (by simp[cells,hzc,Mr,t4]) (fun j v hj=>by
       obtain⟨x,r3,r4⟩:=SV.isL_get r1 j v hj
       have hjl:j < (Builtin.zeroCells zv.cells k.toNat).size:=by
        rcases Nat.lt_or_ge j (Builtin.zeroCells zv.cells k.toNat).size with h|h
        ·exact h
        ·rw[List.getElem?_eq_none (by simpa using h)] at r3;cases r3
       refine⟨x,?_,r4,r2 x (List.mem_of_getElem? r3)⟩
       simp only[cells,Array.empty_append]
       rw[Array.getElem?_append_left (by simpa using hjl)]
       simpa using r3)
     refine⟨_,_,_,_,dO.le_set (R.mem.fresh _ (Nat.le_refl _)),hK,?_,hal,by have:=R.n0;omega⟩
     simp only[SV.is]
     refine⟨_,some ⟨w.heap.size,0,none⟩,by rw[hcell];exact iL,?_,.inl rfl⟩
     have:cells.size=cap * s:=by
      simp only[cells,Array.size_append,hzc]
      simp only[List.size_toArray,List.length_nil,Nat.zero_add]
      rw[← Nat.add_mul];congr 1;omega
     simp[this,Nat.mul_div_cancel _ (Nat.pos_of_ne_zero t6)]
   ·cases q3
 ·exact hk.elim
end
def HD (ρ:dO) (m:bL) (b:Nat):Prop:=∃ i B L,(i,B)∈m∧B.own∧ρ i=some L∧L.blk=some b
def pM (P:Program) (T:List (Nat × List SV)) (ρ:dO) (m:bL) (n:Nat) (w:World):Ctx:=⟨P,w,ρ,n,HD ρ m,T⟩
def JR (P:Program) (f:FuncId):Bool:=
 match P.funcs[f]? with
 | some fn => !(fn.name == "runtime.NumGoroutine") && fn.body.isSome
 | none=>false
structure Fun (P:Program) (T:List (Nat × List SV)) (f:FuncId) (args:List SV) (m:bL) (n:Nat) (r:SV) (m':bL) (n':Nat):Prop where
 fok:JR P f=true
 le:n≤n'
 run:∀ ρ w vals,MemOk (pM P T ρ m n w) ρ m n w→CtxOk (pM P T ρ m n w)→SV.isL ρ args vals →
  Calls P f vals.toArray w fun e w'=>∃ x ρ',e=.returned x∧ρ.le ρ'∧r.is ρ' x∧MemOk (pM P T ρ m n w) ρ' m' n' w'
def bB (hs:List (Nat × Nat)) (n:Nat) (i:Nat):Nat × Nat:=(hs[i]?).getD (n+(i - hs.length),0)
def Kind.isOwn:Kind→Bool
 | .view=>false
 | _=>true
theorem E6 {B:Blk} (h:B.kind.isOwn=true):B.own:=by
 intro e;rw[e] at h;cases h
theorem xT {B:Blk} (h:B.own):B.kind.isOwn=true:=by
 unfold Blk.own at h
 cases hk:B.kind <;> first|rfl|exact absurd hk h
def aK (η:Nat→Nat × Nat) (m:bL):bL→Prop
 | []=>True
 | (i,B0) :: r=>(∃ B,rd m (η i).1=some B ∧
  match B0.kind with
  | .view=>(η i).2+B0.cells.length≤B.cells.length∧SV.renL η B0.cells=(B.cells.drop (η i).2).take B0.cells.length
  | _=>(η i).2=0∧B.kind=B0.kind∧B.cells=SV.renL η B0.cells)∧aK η m r
def aM (η:Nat→Nat × Nat):bL→Prop
 | []=>True
 | (i,B0) :: r=>(∀ x∈r,(B0.kind.isOwn || x.2.kind.isOwn)=true→(η i).1≠(η x.1).1)∧aM η r
def aG (k:Nat):bL→Prop
 | []=>True
 | (i,_) :: r=>i < k∧aG k r
def fX (η:Nat→Nat × Nat):bL→Prop
 | []=>True
 | (i,B) :: r=>(B.kind.isOwn=true→(η i).2=0)∧fX η r
def cQ (η:Nat→Nat × Nat):bL→bL
 | []=>[]
 | (i,B) :: r=>match B.kind.isOwn with
  | true=>((η i).1,⟨B.kind,SV.renL η B.cells⟩) :: cQ η r
  | false=>cQ η r
def bZ (η:Nat→Nat × Nat):bL→List Nat
 | []=>[]
 | (i,B) :: r=>match B.kind.isOwn with
  | true=>(η i).1 :: bZ η r
  | false=>bZ η r
def qM:bL→List Nat→bL
 | m,[]=>m
 | m,t :: ts=>qM (rm m t) ts
theorem xU:∀ {ts:List Nat} {m:bL} {x:Nat × Blk},x∈qM m ts→x∈m∧x.1 ∉ ts
 | [],m,x,h=>⟨h,by simp⟩
 | t :: ts,m,x,h=>by
  obtain⟨h1,h2⟩:=xU (ts:=ts) h
  obtain⟨h3,h4⟩:=uV h1
  exact⟨h3,by simp;exact⟨h4,h2⟩⟩
theorem mJ {η:Nat→Nat × Nat}:∀ {m:bL} {x:Nat × Blk},x∈cQ η m→∃ i B,(i,B)∈m∧B.own∧x=((η i).1,⟨B.kind,SV.renL η B.cells⟩)
 | [],x,h=>by simp[cQ] at h
 | (i,B) :: r,x,h=>by
  unfold cQ at h
  cases hk:B.kind.isOwn with
  | true=>
   simp only[hk] at h
   rcases List.mem_cons.1 h with h|h
   ·exact⟨i,B,List.mem_cons_self,E6 hk,h⟩
   ·obtain⟨j,B',h1,h2,h3⟩:=mJ h
    exact⟨j,B',List.mem_cons_of_mem _ h1,h2,h3⟩
  | false=>
   simp only[hk] at h
   obtain⟨j,B',h1,h2,h3⟩:=mJ h
   exact⟨j,B',List.mem_cons_of_mem _ h1,h2,h3⟩
theorem BY {η:Nat→Nat × Nat}:∀ {m:bL} {i:Nat} {B:Blk},(i,B)∈m→B.own→(η i).1∈bZ η m
 | (j,B') :: r,i,B,h,ho=>by
  unfold bZ
  rcases List.mem_cons.1 h with h|h
  ·cases h
   rw[xT ho];simp
  ·have:=BY (η:=η) h ho
   cases hk:B'.kind.isOwn <;> simp[this]
theorem uX {η:Nat→Nat × Nat} {m:bL}:∀ {m0:bL},aK η m m0→∀ i B0,(i,B0)∈m0→∃ B,rd m (η i).1=some B ∧
   match B0.kind with
   | .view=>(η i).2+B0.cells.length≤B.cells.length∧SV.renL η B0.cells=(B.cells.drop (η i).2).take B0.cells.length
   | _=>(η i).2=0∧B.kind=B0.kind∧B.cells=SV.renL η B0.cells
 | (j,B') :: r,h,i,B0,hm=>by
  simp only[aK] at h
  rcases List.mem_cons.1 hm with e|e
  ·cases e;exact h.1
  ·exact uX h.2 i B0 e
theorem zC {η:Nat→Nat × Nat} {m:bL} {m0:bL} (h:aK η m m0) {i:Nat} {B0:Blk} (hi:(i,B0)∈m0) (ho:B0.own) :
  ∃ B,rd m (η i).1=some B∧(η i).2=0∧B.kind=B0.kind∧B.cells=SV.renL η B0.cells:=by
 obtain⟨B,h1,h2⟩:=uX h i B0 hi
 unfold Blk.own at ho
 cases hk:B0.kind with
 | view=>exact absurd hk ho
 | own e=>simp only[hk] at h2;exact⟨B,h1,h2⟩
 | map k ks=>simp only[hk] at h2;exact⟨B,h1,h2⟩
theorem Cg {η:Nat→Nat × Nat}:∀ {m0:bL},aM η m0→∀ i B j B',(i,B)∈m0→(j,B')∈m0→i≠j→B.own→(η i).1≠(η j).1
 | (q,D) :: r,h,i,B,j,B',hi,hj,hij,ho=>by
  simp only[aM] at h
  rcases List.mem_cons.1 hi with e|e
  ·cases e
   rcases List.mem_cons.1 hj with e'|e'
   ·cases e';exact (hij rfl).elim
   ·exact h.1 _ e' (by simp[xT ho])
  ·rcases List.mem_cons.1 hj with e'|e'
   ·cases e'
    exact fun heq=>h.1 _ e (by simp[xT ho]) heq.symm
   ·exact Cg h.2 i B j B' e e' hij ho
theorem Ch {η:Nat→Nat × Nat}:∀ {m0:bL},fX η m0→∀ i B,(i,B)∈m0→B.own→(η i).2=0
 | (q,D) :: r,h,i,B,hi,ho=>by
  simp only[fX] at h
  rcases List.mem_cons.1 hi with e|e
  ·cases e;exact h.1 (xT ho)
  ·exact Ch h.2 i B e ho
theorem Loc.shift_zero (L:Loc):L.shift 0=L:=rfl
section
variable {C:Ctx} {ρ:dO} {m m0:bL} {n:Nat} {w:World} {hs:List (Nat × Nat)}
theorem UA {i:Nat} (h:i < hs.length):bB hs n i=hs[i]:=by unfold bB;simp[h]
theorem JS {i:Nat} (h:hs.length≤i):bB hs n i=(n+(i - hs.length),0):=by
 unfold bB;rw[List.getElem?_eq_none h];rfl
theorem Ci (R:MemOk C ρ m n w) (hc:aK (bB hs n) m m0) (ha:aM (bB hs n) m0) (hk:aG hs.length m0) :
  MemOk (pM C.P C.T (ρ.via (bB hs n)) m0 hs.length w) (ρ.via (bB hs n)) m0 hs.length w:=by
 constructor
 ·intro i B0 hi
  obtain⟨B,hB,hk'⟩:=uX hc i B0 hi
  obtain⟨L,h1,h2⟩:=R.blk _ B (fM hB)
  refine⟨L.shift (bB hs n i).2,by simp[dO.via,h1],?_⟩
  unfold Blk.okAt at h2 ⊢
  cases hkd:B0.kind with
  | own e=>
   simp only[hkd] at hk'
   obtain⟨g1,g2,g3⟩:=hk'
   rw[g1,Loc.shift_zero]
   cases hb:L.blk with
   | none=>
    rw[hb] at h2;simp only at h2 ⊢
    refine⟨?_,h2.2⟩
    have:=h2.1;rw[g3,SV.renL_eq] at this;simpa using this
   | some b=>
    rw[hb] at h2;simp only[g2] at h2;simp only
    refine⟨h2.1,fun j v hj=>?_,h2.2.2.1,?_,h2.2.2.2.2⟩
    ·obtain⟨x,q1,q2,q3⟩:=h2.2.1 j (v.ren (bB hs n)) (by rw[g3,SV.renL_eq];simp[hj])
     exact⟨x,q1,(SV.is_ren v x).1 q2,q3⟩
    ·have:=h2.2.2.2.1;rw[g3,SV.renL_eq] at this;simpa using this
  | map mk mks=>
   simp only[hkd] at hk'
   obtain⟨g1,g2,g3⟩:=hk'
   rw[g1,Loc.shift_zero]
   cases hb:L.blk with
   | none=>
    rw[hb] at h2;simp only at h2 ⊢
    refine⟨?_,h2.2⟩
    have:=h2.1;rw[g3,SV.renL_eq] at this;simpa using this
   | some b=>
    rw[hb] at h2;simp only[g2] at h2;simp only
    have h0:B0.cells=[]:=by have:=h2.2.2.2.1;rw[g3,SV.renL_eq] at this;simpa using this
    exact⟨h2.1,fun j v hj=>by rw[h0] at hj;simp at hj,h2.2.2.1,h0,h2.2.2.2.2⟩
  | view=>
   simp only[hkd] at hk'
   obtain⟨g1,g2⟩:=hk'
   cases hb:L.blk with
   | none=>
    rw[hb] at h2;simp only[Loc.shift,hb] at h2 ⊢
    rw[h2.1] at g1;simp at g1
    exact⟨g1.2,by rw[h2.2];simp⟩
   | some b=>
    rw[hb] at h2;simp only[Loc.shift,hb] at h2 ⊢
    refine⟨h2.1,fun j v hj=>?_,by have h4:B.cells.length≤L.cap:=Blk.okAt_len (ρ:=ρ) (w:=w) (by unfold Blk.okAt;rw[hb];exact h2);omega⟩
    have hlt:j < B0.cells.length:=by
     rcases Nat.lt_or_ge j B0.cells.length with h|h
     ·exact h
     ·rw[List.getElem?_eq_none h] at hj;cases hj
    have hren:(SV.renL (bB hs n) B0.cells)[j]?=some (v.ren (bB hs n)):=by rw[SV.renL_eq];simp[hj]
    rw[g2,List.getElem?_take_of_lt hlt,List.getElem?_drop] at hren
    obtain⟨x,q1,q2,q3⟩:=h2.2.1 _ _ hren
    exact⟨x,by rw[Nat.add_assoc];exact q1,(SV.is_ren v x).1 q2,q3⟩
 ·intro i B j B' L L' b hi hj hij ho hL hL' hb
  obtain⟨D,hD,_,hDk,_⟩:=zC hc hi ho
  obtain⟨D2,hD2,_⟩:=uX hc j B' hj
  have hne:=Cg ha i B j B' hi hj hij ho
  unfold dO.via at hL hL'
  obtain⟨L1,g1,rfl⟩:=Option.map_eq_some_iff.1 hL
  obtain⟨L2,g2,rfl⟩:=Option.map_eq_some_iff.1 hL'
  exact R.apart _ D _ D2 L1 L2 b (fM hD) (fM hD2) hne (by unfold Blk.own;rw[hDk];exact ho) g1 g2 hb
 ·intro i hi
  unfold dO.via
  rw[JS hi,R.fresh _ (by simp)];rfl
 ·intro i B L b hi ho hL hb
  exact .inr ⟨i,B,L,hi,ho,hL,hb⟩
 ·exact Nat.le_refl _
 ·intro b _ _;rfl
 ·intro i _;rfl
 ·exact⟨rfl,rfl⟩
theorem oS (R:MemOk C ρ m n w) (hc:aK (bB hs n) m m0) {b:Nat} (h:HD (ρ.via (bB hs n)) m0 b) :
  ∃ t B L,t∈bZ (bB hs n) m0∧(t,B)∈m∧B.own∧ρ t=some L∧L.blk=some b:=by
 obtain⟨i,B0,L0,h1,h2,h3,h4⟩:=h
 obtain⟨B,hB,_,hk,_⟩:=zC hc h1 h2
 unfold dO.via at h3
 obtain⟨L1,g1,rfl⟩:=Option.map_eq_some_iff.1 h3
 exact⟨_,B,L1,BY h1 h2,fM hB,by unfold Blk.own;rw[hk];exact h2,g1,h4⟩
theorem JT (R:MemOk C ρ m n w) (X:CtxOk C) (hc:aK (bB hs n) m m0) :
  CtxOk (pM C.P C.T (ρ.via (bB hs n)) m0 hs.length w):=by
 constructor
 ·intro g cs h
  obtain⟨h1,h2⟩:=X.tab g cs h
  refine⟨Nat.lt_of_lt_of_le h1 R.size,fun j v hj=>?_⟩
  obtain⟨x,q1,q2,q3⟩:=h2 j v hj
  exact⟨x,by rw[← q1];exact fU (R.frame g h1 (X.nwr g cs h)),q2,q3⟩
 ·intro g cs h ho
  obtain⟨t,B,L,h1,h2,h3,h4,h5⟩:=oS R hc ho
  have hg:=X.tab g cs h
  rcases R.wrt t B L g h2 h3 h4 h5 with q|q
  ·exact absurd hg.1 (by omega)
  ·exact X.nwr g cs h q
def nE (ρ ρ1:dO) (n k:Nat):dO:=fun j=>if j < n then ρ j else ρ1 (k+(j - n))
theorem HE {ρ1:dO} (hk:∀ i,i < hs.length→ρ1 i=(ρ.via (bB hs n)) i) (hlt:∀ i,i < hs.length→(bB hs n i).1 < n) :
  (nE ρ ρ1 n hs.length).via (bB hs n)=ρ1:=by
 funext i
 unfold dO.via nE
 by_cases h:i < hs.length
 ·rw[if_pos (hlt i h),hk i h];rfl
 ·rw[JS (by omega)]
  rw[if_neg (by simp)]
  simp only[Nat.add_sub_cancel_left]
  rw[show hs.length+(i - hs.length)=i by omega]
  cases ρ1 i <;> rfl
theorem JU (R:MemOk C ρ m n w) (hn0:C.n0≤n) (hc:aK (bB hs n) m m0) (hlt:∀ i,i < hs.length→(bB hs n i).1 < n)
  {ρ1:dO} {m1:bL} {n1:Nat} {w':World} (hle1:hs.length≤n1) (hzs:fX (bB hs n) m1)
  (R1:MemOk (pM C.P C.T (ρ.via (bB hs n)) m0 hs.length w) ρ1 m1 n1 w') :
  MemOk C (nE ρ ρ1 n hs.length) (cQ (bB hs n) m1++qM m (bZ (bB hs n) m0)) (n+(n1 - hs.length)) w' ∧
  ρ.le (nE ρ ρ1 n hs.length):=by
 have hvia:=HE (ρ:=ρ) (n:=n) (ρ1:=ρ1) (hs:=hs) (fun i hi=>R1.keep i hi) hlt
 have hle:ρ.le (nE ρ ρ1 n hs.length):=fun i L hL=>by
  unfold nE
  have:i < n:=by
   rcases Nat.lt_or_ge i n with h|h
   ·exact h
   ·rw[R.fresh i h] at hL;cases hL
  rw[if_pos this];exact hL
 have hback:∀ j,j < n→nE ρ ρ1 n hs.length j=ρ j:=fun j hj=>by unfold nE;rw[if_pos hj]
 have hinn:∀ j B,(j,B)∈m→j < n:=fun j B hj=>by
  obtain⟨L,h1,_⟩:=R.blk j B hj
  rcases Nat.lt_or_ge j n with h|h
  ·exact h
  ·rw[R.fresh j h] at h1;cases h1
 -- a renamed own block: its place
 have hnew:∀ i B,(i,B)∈m1→B.own→∃ L,ρ1 i=some L∧B.okAt ρ1 w' L∧nE ρ ρ1 n hs.length (bB hs n i).1=some L:=by
  intro i B hi ho
  obtain⟨L,h1,h2⟩:=R1.blk i B hi
  have hv:((nE ρ ρ1 n hs.length).via (bB hs n)) i=some L:=by rw[hvia];exact h1
  unfold dO.via at hv
  obtain⟨L',g1,g2⟩:=Option.map_eq_some_iff.1 hv
  rw[Ch hzs i B hi ho,Loc.shift_zero] at g2
  exact⟨L,h1,h2,by rw[g1,g2]⟩
 have hold:∀ j B L b,(j,B)∈m→j ∉ bZ (bB hs n) m0→ρ j=some L→L.blk=some b→w'.heap[b]?=w.heap[b]?∧b < w.heap.size∧¬ HD (ρ.via (bB hs n)) m0 b:=by
  intro j B L b hj hnt hL hb
  have hno:¬ HD (ρ.via (bB hs n)) m0 b:=by
   intro ho
   obtain⟨t,Bt,Lt,h1,h2,h3,h4,h5⟩:=oS R hc ho
   exact R.apart t Bt j B Lt L b h2 hj (fun e=>hnt (e ▸ h1)) h3 h4 hL h5 hb
  have hbs:b < w.heap.size:=by
   obtain⟨L',g1,g2⟩:=R.blk j B hj
   rw[hL] at g1;cases g1
   unfold Blk.okAt at g2;rw[hb] at g2;exact g2.1
  exact⟨R1.frame b hbs hno,hbs,hno⟩
 refine⟨⟨?_,?_,?_,?_,?_,?_,?_,⟨R1.side.1.trans R.side.1,R1.side.2.trans R.side.2⟩⟩,hle⟩
 ·intro i B hi
  rcases List.mem_append.1 hi with hi|hi
  ·obtain⟨i1,B1,h1,h2,h3⟩:=mJ hi
   cases h3
   obtain⟨L,g1,g2,g3⟩:=hnew i1 B1 h1 h2
   refine⟨L,g3,?_⟩
   unfold Blk.okAt at g2 ⊢
   cases hb:L.blk with
   | none=>
    rw[hb] at g2
    exact⟨by simp only;rw[SV.renL_eq,g2.1];rfl,g2.2⟩
   | some b=>
    rw[hb] at g2
    refine⟨g2.1,fun j v hj=>?_,?_⟩
    ·simp only at hj
     rw[SV.renL_eq,List.getElem?_map] at hj
     obtain⟨v0,hv0,rfl⟩:=Option.map_eq_some_iff.1 hj
     obtain⟨x,q1,q2,q3⟩:=g2.2.1 j v0 hv0
     exact⟨x,q1,(SV.is_ren v0 x).2 (by rw[hvia];exact q2),q3⟩
    ·have:=g2.2.2
     unfold Blk.own at h2
     cases hk1:B1.kind with
     | view=>exact absurd hk1 h2
     | own e=>simp only[hk1] at this ⊢;rw[SV.renL_eq];simpa using this
     | map mk mks=>simp only[hk1] at this ⊢;rw[SV.renL_eq];simpa using this
  ·obtain⟨hm,hnt⟩:=xU hi
   obtain⟨L,g1,g2⟩:=R.blk i B hm
   exact⟨L,by rw[hback i (hinn i B hm)];exact g1,g2.mono hle (fun b hb=>(hold i B L b hm hnt g1 hb).1) R1.size⟩
 ·intro i B j B' L L' b hi hj hij ho hL hL' hb
  -- a new own block's number is none of an old one's
  have cross:∀ i1 B1 L1 j2 B2 L2 b,(i1,B1)∈m1→B1.own→ρ1 i1=some L1→L1.blk=some b→(j2,B2)∈m→j2 ∉ bZ (bB hs n) m0→ρ j2=some L2→L2.blk≠some b:=by
   intro i1 B1 L1 j2 B2 L2 b h1 h2 h3 h4 h5 h6 h7 h8
   obtain⟨_,q2,q3⟩:=hold j2 B2 L2 b h5 h6 h7 h8
   rcases R1.wrt i1 B1 L1 b h1 h2 h3 h4 with q|q
   ·simp only[pM] at q;omega
   ·exact q3 q
  rcases List.mem_append.1 hi with hi|hi
  ·obtain⟨i1,B1,h1,h2,h3⟩:=mJ hi
   cases h3
   obtain⟨L1,g1,_,g3⟩:=hnew i1 B1 h1 h2
   rw[g3] at hL;cases hL
   rcases List.mem_append.1 hj with hj|hj
   ·obtain⟨j1,D1,k1,k2,k3⟩:=mJ hj
    cases k3
    obtain⟨L2,q1,_,q3⟩:=hnew j1 D1 k1 k2
    rw[q3] at hL';cases hL'
    exact R1.apart i1 B1 j1 D1 _ _ b h1 k1 (fun e=>hij (by rw[e])) h2 g1 q1 hb
   ·obtain⟨hm,hnt⟩:=xU hj
    rw[hback j (hinn j B' hm)] at hL'
    exact cross i1 B1 _ j B' L' b h1 h2 g1 hb hm hnt hL'
  ·obtain⟨hm,hnt⟩:=xU hi
   rw[hback i (hinn i B hm)] at hL
   rcases List.mem_append.1 hj with hj|hj
   ·obtain⟨j1,D1,k1,k2,k3⟩:=mJ hj
    cases k3
    obtain⟨L2,q1,_,q3⟩:=hnew j1 D1 k1 k2
    rw[q3] at hL';cases hL'
    intro hb'
    exact cross j1 D1 _ i B L b k1 k2 q1 hb' hm hnt hL hb
   ·obtain⟨hm',hnt'⟩:=xU hj
    rw[hback j (hinn j B' hm')] at hL'
    exact R.apart i B j B' L L' b hm hm' hij ho hL hL' hb
 ·intro i hi
  unfold nE
  rw[if_neg (by omega)]
  exact R1.fresh _ (by omega)
 ·intro i B L b hi ho hL hb
  rcases List.mem_append.1 hi with hi|hi
  ·obtain⟨i1,B1,h1,h2,h3⟩:=mJ hi
   cases h3
   obtain⟨L1,g1,_,g3⟩:=hnew i1 B1 h1 h2
   rw[g3] at hL;cases hL
   rcases R1.wrt i1 B1 _ b h1 h2 g1 hb with q|q
   ·simp only[pM] at q;exact .inl (Nat.le_trans R.size q)
   ·obtain⟨t,Bt,Lt,r1,r2,r3,r4,r5⟩:=oS R hc q
    exact R.wrt t Bt Lt b r2 r3 r4 r5
  ·obtain⟨hm,hnt⟩:=xU hi
   rw[hback i (hinn i B hm)] at hL
   exact R.wrt i B L b hm ho hL hb
 ·exact Nat.le_trans R.size R1.size
 ·intro b hb hwr
  have hno:¬ HD (ρ.via (bB hs n)) m0 b:=by
   intro ho
   obtain⟨t,Bt,Lt,r1,r2,r3,r4,r5⟩:=oS R hc ho
   rcases R.wrt t Bt Lt b r2 r3 r4 r5 with q|q
   ·omega
   ·exact hwr q
  have:=R1.frame b (Nat.lt_of_lt_of_le hb R.size) hno
  exact this.trans (R.frame b hb hwr)
 ·intro i hi
  rw[hback i (by omega)];exact R.keep i hi
theorem RT (R:MemOk C ρ m n w) (X:CtxOk C) (hn0:C.n0≤n) {f:FuncId} {args0:List SV} {r0:SV} {m1:bL} {n1:Nat} {K:Kt}
  (F:Fun C.P C.T f args0 m0 hs.length r0 m1 n1) (hc:aK (bB hs n) m m0) (ha:aM (bB hs n) m0) (hk:aG hs.length m0)
  (hlt:∀ i,i < hs.length→(bB hs n i).1 < n) (hzs:fX (bB hs n) m1) {vals:List Value} (hv:SV.isL ρ (SV.renL (bB hs n) args0) vals)
  (hK:K (r0.ren (bB hs n)) (cQ (bB hs n) m1++qM m (bZ (bB hs n) m0)) (n+(n1 - hs.length))) :
  Calls C.P f vals.toArray w fun e w'=>∃ x,e=.returned x∧∃ ρ' v m' n',ρ.le ρ'∧K v m' n'∧v.is ρ' x∧MemOk C ρ' m' n' w'∧C.n0≤n':=by
 refine (F.run (ρ.via (bB hs n)) w vals (Ci R hc ha hk) (JT R X hc) ((SV.isL_ren _ _).1 hv)).mono ?_
 rintro e w' ⟨x,ρ1,rfl,h1,h2,h3⟩
 obtain⟨g1,g2⟩:=JU R hn0 hc hlt F.le hzs h3
 refine⟨x,rfl,_,_,_,_,g2,hK,(SV.is_ren _ _).2 ?_,g1,by omega⟩
 rw[HE (fun i hi=>h3.keep i hi) hlt];exact h2
end
def aY (P:Program) (T:List (Nat × List SV)):bG:=fun f args m n K=>
 ∃ hs args0 m0 r0 m1 n1,Fun P T f args0 m0 (List.length hs) r0 m1 n1∧args=SV.renL (bB hs n) args0∧aK (bB hs n) m m0∧aM (bB hs n) m0 ∧
  aG hs.length m0∧(∀ h∈hs,h.1 < n)∧fX (bB hs n) m1∧K (r0.ren (bB hs n)) (cQ (bB hs n) m1++qM m (bZ (bB hs n) m0)) (n+(n1 - hs.length))
def Cj (rec:TypeId→Option (List Tag)):List Field→Nat→Option (List Tag)
 | [],_=>some []
 | f :: fs,off=>
  if f.name = "_" then none else if f.offset ≠ off then none else
  match rec f.type with
  | none=>none
  | some ps=>match Cj rec fs (off+ps.length) with
   | none=>none
   | some qs=>some (ps++qs)
def n9 (P:Program):Nat→TypeId→Option (List Tag)
 | 0,_=>none
 | d+1,t=>
  match P.underlying t with
  | some .bool=>some [.b]
  | some (.int k)=>some [.i k]
  | some .string=>some [.s]
  | some (.struct fs)=>if P.stoodInHeld t then none else
   match Cj (n9 P d) fs.toList 0 with
   | none=>none
   | some ps=>if iG P t=some ps.length then some ps else none
  | some (.array n e)=>
   match n9 P d e with
   | none=>none
   | some ps=>if iG P t=some (n * ps.length)∧iG P e=some ps.length then some (List.replicate n ps).flatten else none
  | _=>none
theorem AA {P:Program} {t:TypeId} {k:Nat} (h:iG P t=some k):(P.info? t).map (fun i=>some i.size)=some (some k):=by
 unfold iG at h
 cases hi:P.info? t with
 | none=>simp[hi] at h
 | some i=>simp[hi] at h ⊢;exact h
theorem HF {P:Program} {d:Nat} {t:TypeId} {ps:List Tag} (h:n9 P d t=some ps) :
  (gX P t=some none∧ps.length=1)∨gX P t=some (some ps.length):=by
 cases d with
 | zero=>simp[n9] at h
 | succ d=>
  unfold n9 at h
  unfold gX
  cases hu:P.underlying t with
  | none=>simp[hu] at h
  | some D=>
   cases D <;> simp only[hu] at h ⊢
   case bool=>cases h;left;simp
   case int=>cases h;left;simp
   case string=>cases h;left;simp
   case struct fs=>
    right
    split at h
    ·cases h
    ·split at h
     ·cases h
     ·split at h
      ·rename_i hs;cases h;exact AA hs
      ·cases h
   case array n e=>
    right
    split at h
    ·cases h
    ·split at h
     ·rename_i hs;cases h
      rw[AA hs.1];simp
     ·cases h
   all_goals cases h
theorem Ao:∀ {ps qs:List Tag} {l l':List SV} {b:Bool},eF (ps++qs) l l'=some b →
  ∃ b1 b2,eF ps (l.take ps.length) (l'.take ps.length)=some b1∧eF qs (l.drop ps.length) (l'.drop ps.length)=some b2∧b=(b1 && b2)
 | [],qs,l,l',b,h=>⟨true,b,by simp[eF],by simpa using h,by simp⟩
 | p :: ps,qs,[],l',b,h=>by simp[eF] at h
 | p :: ps,qs,a :: l,[],b,h=>by simp[eF] at h
 | p :: ps,qs,a :: l,c :: l',b,h=>by
  simp only[List.cons_append,eF] at h
  split at h
  ·rename_i x y hx hy
   cases h
   obtain⟨b1,b2,h1,h2,h3⟩:=Ao hy
   refine⟨x && b1,b2,?_,by simpa using h2,by rw[h3,Bool.and_assoc]⟩
   simp[eF,hx,h1]
  ·cases h
theorem tV:∀ {ps:List Tag} {l l':List SV} {b:Bool},eF ps l l'=some b→l.length=ps.length∧l'.length=ps.length
 | [],[],[],_,_=>⟨rfl,rfl⟩
 | p :: ps,a :: l,c :: l',b,h=>by
  simp only[eF] at h
  split at h
  ·rename_i x y hx hy
   obtain⟨h1,h2⟩:=tV hy
   simp[h1,h2]
  ·cases h
 | [],[],_ :: _,_,h=>by simp[eF] at h
 | [],_ :: _,_,_,h=>by simp[eF] at h
 | _ :: _,[],_,_,h=>by simp[eF] at h
 | _ :: _,_ :: _,[],_,h=>by simp[eF] at h
section
variable {P:Program} {ρ:dO}
def tW (g:Option Nat) (xs:List Value):Value:=
 match g,xs with
 | none,[x]=>x
 | _,xs=>.agg xs.toArray
theorem xV {t:TypeId} {g:Option Nat} (hg:gX P t=some g) {k:Nat} (hk:(g=none∧k=1)∨g=some k) {xs:List Value} {o:Nat} (ho:o+k≤xs.length) (w:World) :
  (part t xs.toArray o).run P w=.ok (tW g ((xs.drop o).take k)) w:=by
 rcases hk with⟨rfl,rfl⟩|rfl
 ·have hlt:o < xs.length:=by omega
  rw[yY hg (x:=xs[o]) (by simp[hlt])]
  rw[List.drop_eq_getElem_cons hlt,List.take_succ_cons,List.take_zero];rfl
 ·rw[wC hg]
  simp[tW]
theorem CC {l:List SV} {xs:List Value} (h:SV.isL ρ l xs) (o k:Nat):SV.isL ρ ((l.drop o).take k) ((xs.drop o).take k):=wD k (z9 o h)
def JV (P:Program) (ρ:dO) (d:Nat):Prop:=
 ∀ t ps,n9 P d t=some ps→∀ q l l' xs ys b (w:World),SV.isL ρ l xs→SV.isL ρ l' ys→eF ps l l'=some b→∀ g,gX P t=some g →
  (Op.equalIn (d+q) t (tW g xs) (tW g ys)).run P w=.ok b w
theorem AB {d:Nat} (ih:JV P ρ d) (q:Nat) {l l':List SV} {xs ys:List Value} (hx:SV.isL ρ l xs) (hy:SV.isL ρ l' ys) :
  ∀ (fs:List Field) (off:Nat) (ps:List Tag) (b:Bool) (w:World),Cj (n9 P d) fs off=some ps→eF ps (l.drop off) (l'.drop off)=some b →
  off≤xs.length→off≤ys.length→(Op.eqFields (d+q) xs.toArray ys.toArray fs).run P w=.ok b w
 | [],off,ps,b,w,h,hb,_,_=>by
  simp only[Cj,Option.some.injEq] at h;subst h
  have:=tV hb
  simp only[List.length_nil] at this
  have hb':eF [] [] []=some b:=by
   rw[List.length_eq_zero_iff.1 this.1,List.length_eq_zero_iff.1 this.2] at hb;exact hb
  simp only[eF,Option.some.injEq] at hb';subst hb'
  rfl
 | f :: fs,off,ps,b,w,h,hb,ho,ho'=>by
  simp only[Cj] at h
  split at h
  ·cases h
  ·rename_i hn
   split at h
   ·cases h
   ·rename_i hoff
    have hoff:f.offset=off:=by simpa using hoff
    split at h
    ·cases h
    ·rename_i ps1 h1
     split at h
     ·cases h
     ·rename_i qs h2
      cases h
      obtain⟨b1,b2,e1,e2,rfl⟩:=Ao hb
      have hl:=tV e1
      have hlx:=SV.isL_length hx
      have hly:=SV.isL_length hy
      have hle:off+ps1.length≤xs.length:=by
       have:=hl.1;simp at this;omega
      have hle':off+ps1.length≤ys.length:=by
       have:=hl.2;simp at this;omega
      obtain⟨g,hg,hgk⟩:∃ g,gX P f.type=some g∧((g=none∧ps1.length=1)∨g=some ps1.length):=by
       rcases HF h1 with⟨r1,r2⟩|r1
       ·exact⟨none,r1,.inl ⟨rfl,r2⟩⟩
       ·exact⟨_,r1,.inr rfl⟩
      rw[List.drop_drop,List.drop_drop] at e2
      have hrec:=AB ih q hx hy fs (off+ps1.length) qs b2 w h2 e2 hle hle'
      have heq:=ih f.type ps1 h1 q _ _ _ _ b1 w (CC hx off ps1.length) (CC hy off ps1.length) e1 g hg
      simp only[Op.eqFields]
      rw[if_pos hn,hoff]
      simp only[Sem.run_bind,xV hg hgk hle,xV hg hgk hle',Result.andThen_ok,heq,Sem.run_ite]
      cases b1
      ·simp
      ·simpa using hrec
theorem Lu (n:Nat) (ps:List Tag):(List.replicate (n+1) ps).flatten=ps++(List.replicate n ps).flatten:=by
 rw[List.replicate_succ,List.flatten_cons]
theorem E7 {d:Nat} (ih:JV P ρ d) (q:Nat) {e:TypeId} {ps:List Tag} (h1:n9 P d e=some ps) {g:Option Nat} (hg:gX P e=some g)
  (hgk:(g=none∧ps.length=1)∨g=some ps.length) {l l':List SV} {xs ys:List Value} (hx:SV.isL ρ l xs) (hy:SV.isL ρ l' ys) :
  ∀ (n i:Nat) (b:Bool) (w:World),eF (List.replicate n ps).flatten (l.drop (i * ps.length)) (l'.drop (i * ps.length))=some b →
  (i+n) * ps.length≤xs.length→(i+n) * ps.length≤ys.length →
  ((do
   let r ← forIn (List.range' i n) ((none:Option Bool),()) fun i _=>do
    let a ← part e xs.toArray (i * ps.length)
    let c ← part e ys.toArray (i * ps.length)
    let v ← Op.equalIn (d+q) e a c
    if (!v)=true then pure (ForInStep.done (some false,())) else pure (ForInStep.yield (none,()))
   match r.1 with
   | some a=>pure a
   | none=>pure true:Sem Bool)).run P w=.ok b w
 | 0,i,b,w,hb,_,_=>by
  have:=tV hb
  simp only[List.replicate_zero,List.flatten_nil,List.length_nil] at this hb
  rw[List.length_eq_zero_iff.1 this.1,List.length_eq_zero_iff.1 this.2] at hb
  simp only[eF,Option.some.injEq] at hb;subst hb
  rfl
 | n+1,i,b,w,hb,ho,ho'=>by
  rw[Lu] at hb
  obtain⟨b1,b2,e1,e2,rfl⟩:=Ao hb
  have hs:(i+(n+1)) * ps.length=i * ps.length+ps.length+n * ps.length:=by
   rw[Nat.add_mul,Nat.add_mul];omega
  have hle:i * ps.length+ps.length≤xs.length:=by omega
  have hle':i * ps.length+ps.length≤ys.length:=by omega
  rw[List.drop_drop,List.drop_drop,show i * ps.length+ps.length=(i+1) * ps.length by rw[Nat.add_mul];omega] at e2
  have hrec:=E7 ih q h1 hg hgk hx hy n (i+1) b2 w e2 (by rw[show i+1+n=i+(n+1) by omega];exact ho) (by rw[show i+1+n=i+(n+1) by omega];exact ho')
  have heq:=ih e ps h1 q _ _ _ _ b1 w (CC hx (i * ps.length) ps.length) (CC hy (i * ps.length) ps.length) e1 g hg
  rw[List.range'_succ,List.forIn_cons]
  simp only[Sem.run_bind,xV hg hgk hle,xV hg hgk hle',Result.andThen_ok,heq,Sem.run_ite]
  cases b1
  ·simp
  ·simp only[Bool.not_true,Bool.false_eq_true,if_false,Sem.run_pure,Result.andThen_ok]
   simp only[Sem.run_bind] at hrec
   simpa using hrec
theorem NC:∀ d,JV P ρ d
 | 0=>by intro t ps h;simp[n9] at h
 | d+1=>by
  have ih:=NC d
  intro t ps h q l l' xs ys b w hx hy hb g hg
  unfold n9 at h
  cases hu:P.underlying t with
  | none=>simp[hu] at h
  | some D=>
   have hl:=tV hb
   have hlx:=SV.isL_length hx
   have hly:=SV.isL_length hy
   rw[show d+1+q=d+q+1 by omega]
   cases D <;> simp only[hu] at h
   case bool=>
    cases h
    have hgn:g=none:=by unfold gX at hg;simpa [hu] using hg.symm
    subst hgn
    obtain⟨a,rfl⟩:=List.length_eq_one_iff.1 hl.1
    obtain⟨c,rfl⟩:=List.length_eq_one_iff.1 hl.2
    simp only[SV.isL] at hx hy
    obtain⟨x,_,rfl,hx,rfl⟩:=hx
    obtain⟨y,_,rfl,hy,rfl⟩:=hy
    simp only[tW]
    cases a <;> cases c <;> simp only[eF,nD] at hb <;> simp at hb
    subst hb
    simp only[SV.is] at hx hy;subst hx;subst hy
    exact run_equalIn_bool w _ t _ _ hu
   case int k=>
    cases h
    have hgn:g=none:=by unfold gX at hg;simpa [hu] using hg.symm
    subst hgn
    obtain⟨a,rfl⟩:=List.length_eq_one_iff.1 hl.1
    obtain⟨c,rfl⟩:=List.length_eq_one_iff.1 hl.2
    simp only[SV.isL] at hx hy
    obtain⟨x,_,rfl,hx,rfl⟩:=hx
    obtain⟨y,_,rfl,hy,rfl⟩:=hy
    simp only[tW]
    cases a <;> cases c <;> simp only[eF,nD] at hb <;> (try simp at hb)
    rename_i k1 a1 k2 a2
    by_cases hk:k1=k∧k2=k
    ·rw[if_pos hk] at hb;simp at hb
     subst hb
     simp only[SV.is] at hx hy;subst hx;subst hy
     rw[hk.1,hk.2]
     exact run_equalIn_int w _ t _ _ _ _ hu
    ·rw[if_neg hk] at hb;simp at hb
   case string=>
    cases h
    have hgn:g=none:=by unfold gX at hg;simpa [hu] using hg.symm
    subst hgn
    obtain⟨a,rfl⟩:=List.length_eq_one_iff.1 hl.1
    obtain⟨c,rfl⟩:=List.length_eq_one_iff.1 hl.2
    simp only[SV.isL] at hx hy
    obtain⟨x,_,rfl,hx,rfl⟩:=hx
    obtain⟨y,_,rfl,hy,rfl⟩:=hy
    simp only[tW]
    cases a <;> cases c <;> simp only[eF,nD] at hb <;> simp at hb
    subst hb
    simp only[SV.is] at hx hy;subst hx;subst hy
    rw[run_equalIn_string w _ t _ _ hu];simp
   case struct fs=>
    split at h
    ·cases h
    ·rename_i hst
     split at h
     ·cases h
     ·rename_i ps' hps
      split at h
      ·rename_i hsz
       cases h
       have hgs:g=some ps.length:=by
        unfold gX at hg;rw[hu] at hg
        simp only[AA hsz,Option.some.injEq] at hg;exact hg.symm
       subst hgs
       have hf:P.fieldsOf t=fs:=by unfold Program.fieldsOf;rw[hu]
       have hw:∀ zs:List Value,tW (some ps.length) zs=.agg zs.toArray:=fun zs=>by unfold tW;rfl
       rw[hw,hw,run_equalIn_struct w (d+q) t xs.toArray ys.toArray (by rw[hf];exact hu) (by simpa using hst),hf]
       exact AB ih q hx hy fs.toList 0 ps b w hps (by simpa using hb) (by omega) (by omega)
      ·cases h
   case array n e=>
    split at h
    ·cases h
    ·rename_i ps' hps
     split at h
     ·rename_i hsz
      cases h
      have hgs:g=some (n * ps'.length):=by
       unfold gX at hg;rw[hu] at hg
       simp only[AA hsz.1,Option.some.injEq] at hg;exact hg.symm
      subst hgs
      have hw:∀ zs:List Value,tW (some (n * ps'.length)) zs=.agg zs.toArray:=fun zs=>by unfold tW;rfl
      rw[hw,hw]
      obtain⟨g',hg',hgk⟩:∃ g,gX P e=some g∧((g=none∧ps'.length=1)∨g=some ps'.length):=by
       rcases HF hps with⟨r1,r2⟩|r1
       ·exact⟨none,r1,.inl ⟨rfl,r2⟩⟩
       ·exact⟨_,r1,.inr rfl⟩
      have hlen:(List.replicate n ps').flatten.length=n * ps'.length:=by simp
      have key:=E7 ih q hps hg' hgk hx hy n 0 b w (by simpa using hb) (by rw[Nat.zero_add];omega) (by rw[Nat.zero_add];omega)
      simp only[Op.equalIn,Sem.run_bind,bJ hu,Result.andThen_ok,cD hsz.2]
      simp only[Sem.run_bind] at key
      rw[Std.Legacy.Range.forIn_eq_forIn_range']
      simp only[Std.Legacy.Range.size,Nat.sub_zero,Nat.add_sub_cancel,Nat.div_one]
      refine Eq.trans ?_ key
      congr 1
      funext a w'
      rcases a with⟨_|_,_⟩ <;> rfl
     ·cases h
   all_goals cases h
end
section
variable {C:Ctx} {N:Nat} {ρ:dO} {fr:Fr} {m:bL} {n:Nat} {a:Act} {w:World} {K:Kt} {T:List (Nat × List SV)} {call:bG}
theorem UB (R:Rel C N ρ fr m n a w) {t:TypeId} {neg:Bool} {pat:List Tag} {o o':Operand} {x y:Opd} (h1:aZ o x=true) (h2:aZ o' y=true)
  {d k:Nat} (hd:d≤10000) (hp:n9 C.P d t=some pat) (hgt:C.P.eqGuardType C.P.depth t=false) (hag:gX C.P t=some (some k))
  (hk:dP T call fr m n K (.eqv neg pat x y)) :
  ∃ z,(do eqGuard (if neg then .neq else .eql) t o o' (a.eval o) (a.eval o');binOp (if neg then .neq else .eql) t (a.eval o) (a.eval o'):Sem Value).run C.P w=.ok z w∧m8 C ρ K z w:=by
 have hv:=cU R h1
 have hv':=cU R h2
 simp only[dP] at hk
 split at hk
 ·rename_i l l' he he'
  rw[he] at hv;rw[he'] at hv'
  obtain⟨xs,e1,e2,e3⟩:=by simpa only [SV.is] using hv
  obtain⟨ys,f1,f2,f3⟩:=by simpa only [SV.is] using hv'
  obtain⟨b,hb,hK⟩:=hk
  have hr:=NC (P:=C.P) (ρ:=ρ) d t pat hp (10000 - d) l l' xs ys b w e1 f1 hb (some k) hag
  rw[show d+(10000 - d)=10000 by omega] at hr
  have hw:∀ zs:List Value,tW (some k) zs=.agg zs.toArray:=fun zs=>by unfold tW;rfl
  rw[hw,hw] at hr
  rw[e3,f3]
  refine⟨.bool (if neg then !b else b),?_,bE R hK (by simp only[SV.is])⟩
  cases neg
  ·simp only[Bool.false_eq_true,if_false,Sem.run_bind,run_eqGuard_agg w .eql t o o' _ _ hgt,Result.andThen_ok,run_eql_struct,hr]
  ·simp only[if_true,Sem.run_bind,run_eqGuard_agg w .neq t o o' _ _ hgt,Result.andThen_ok,run_neq_struct,hr]
 ·exact hk.elim
theorem UC (R:Rel C N ρ fr m n a w) {t:TypeId} {neg:Bool} {o o':Operand} {x y:Opd} (h1:aZ o x=true) (h2:aZ o' y=true)
  (ht:C.P.underlying t=some .bool) (hk:dP T call fr m n K (.eqb neg x y)) :
  ∃ z,(do eqGuard (if neg then .neq else .eql) t o o' (a.eval o) (a.eval o');binOp (if neg then .neq else .eql) t (a.eval o) (a.eval o'):Sem Value).run C.P w=.ok z w∧m8 C ρ K z w:=by
 have hv:=cU R h1
 have hv':=cU R h2
 simp only[dP] at hk
 split at hk
 ·rename_i p q he he'
  rw[he] at hv;rw[he'] at hv'
  have e1:=by simpa only [SV.is] using hv
  have e2:=by simpa only [SV.is] using hv'
  rw[e1,e2]
  refine⟨.bool (if neg then !(p==q) else p==q),?_,bE R hk (by simp only[SV.is])⟩
  have hr:(Op.equal t (.bool p) (.bool q)).run C.P w=.ok (p==q) w:=run_equalIn_bool w 9999 t p q ht
  cases neg
  ·simp[fI,binOp,hr]
  ·simp[fI,binOp,hr]
 ·exact hk.elim
theorem ND (R:Rel C N ρ fr m n a w) {t e:TypeId} {neg:Bool} {o o':Operand} {x:Opd} (h1:aZ o x=true) (h2:a.eval o'=.slice none 0 0)
  (ht:C.P.underlying t=some (.slice e)) (hk:dP T call fr m n K (.isNil neg x)) :
  ∃ z,(do eqGuard (if neg then .neq else .eql) t o o' (a.eval o) (a.eval o');binOp (if neg then .neq else .eql) t (a.eval o) (a.eval o'):Sem Value).run C.P w=.ok z w∧m8 C ρ K z w:=by
 have hv:=cU R h1
 simp only[dP] at hk
 have hq:∀ A l c,(Op.equal t (.slice A l c) (.slice none 0 0)).run C.P w=.ok A.isNone w:=fun A l c=>by
  have hq':∀ d,(Op.equalIn (d+1) t (.slice A l c) (.slice none 0 0)).run C.P w=.ok A.isNone w:=fun d=>by
   cases A <;> simp[Op.equalIn,bJ ht]
  exact hq' 9999
 split at hk
 ·rename_i he
  rw[he] at hv
  have e1:=by simpa only [SV.is] using hv
  rw[e1,h2]
  refine⟨.bool (!neg),?_,bE R hk (by simp only[SV.is])⟩
  cases neg
  ·simp[fI,binOp,hq]
  ·simp[fI,binOp,hq]
 ·rename_i he
  rw[he] at hv
  have e1:=by simpa only [SV.is] using hv
  rw[e1,h2]
  refine⟨.bool neg,?_,bE R hk (by simp only[SV.is])⟩
  cases neg
  ·simp[fI,binOp,hq]
  ·simp[fI,binOp,hq]
 ·rename_i b off s len cap he
  rw[he] at hv
  obtain⟨⟨B,hB,hlt⟩,hK⟩:=hk
  obtain⟨L,A,e1,e2,e3⟩:=by simpa only [SV.is] using hv
  obtain⟨L',b',f1,f2⟩:=C9 R.mem hB hlt
  rw[e1] at f1;cases f1
  have hA:A.isNone=false:=by
   rcases e3 with e3|e3
   ·rw[e3,f2];rfl
   ·cases A with
    | none=>rw[e3.2.2.1 rfl] at f2;cases f2
    | some A=>rfl
  rw[e2,h2]
  refine⟨.bool neg,?_,bE R hK (by simp only[SV.is])⟩
  cases neg
  ·simp[fI,binOp,hq,hA]
  ·simp[fI,binOp,hq,hA]
 ·exact hk.elim
end
section
variable {C:Ctx} {N:Nat} {ρ:dO} {fr:Fr} {m:bL} {n:Nat} {a:Act} {w:World} {K:Kt} {T:List (Nat × List SV)} {call:bG}
def NE (P:Program) (t:TypeId):Bool:=match P.underlying t with
 | some (.pointer e)=>(P.info? e).isSome
 | _=>false
theorem RU (R:Rel C N ρ fr m n a w) {t:TypeId} {neg:Bool} {o o':Operand} {x y:Opd} (h1:aZ o x=true) (h2:aZ o' y=true)
  (ht:NE C.P t=true) (hk:dP T call fr m n K (.pcmp neg x y)) :
  ∃ z,(do eqGuard (if neg then .neq else .eql) t o o' (a.eval o) (a.eval o');binOp (if neg then .neq else .eql) t (a.eval o) (a.eval o'):Sem Value).run C.P w=.ok z w∧m8 C ρ K z w:=by
 have hv:=cU R h1
 have hv':=cU R h2
 unfold NE at ht
 split at ht
 ·rename_i te hte
  obtain⟨j,hj⟩:=Option.isSome_iff_exists.1 ht
  simp only[dP] at hk
  have key:∀ (p q:Option Addr) (b:Bool),(∀ d,(Op.equalIn (d+1) t (.pointer p) (.pointer q)).run C.P w=.ok b w)→K (.bool (if neg then !b else b)) m n→a.eval o=.pointer p→a.eval o'=.pointer q →
    ∃ z,(do eqGuard (if neg then .neq else .eql) t o o' (a.eval o) (a.eval o');binOp (if neg then .neq else .eql) t (a.eval o) (a.eval o'):Sem Value).run C.P w=.ok z w∧m8 C ρ K z w:=by
   intro p q b hq hK hp hq'
   have hq2:(Op.equal t (.pointer p) (.pointer q)).run C.P w=.ok b w:=hq 9999
   refine⟨.bool (if neg then !b else b),?_,bE R hK (by simp only[SV.is])⟩
   rw[hp,hq']
   cases neg
   ·simp[fI,binOp,hq2]
   ·simp[fI,binOp,hq2]
  split at hk
  ·rename_i he he'
   rw[he] at hv;rw[he'] at hv'
   have e1:=by simpa only [SV.is] using hv
   have e2:=by simpa only [SV.is] using hv'
   refine key _ _ true (fun d=>?_) (by cases neg <;> exact hk) e1 e2
   simp[Op.equalIn,bJ hte]
  ·rename_i i0 o0 he he'
   rw[he] at hv;rw[he'] at hv'
   obtain⟨L,b,_,_,e1⟩:=by simpa only [SV.is] using hv
   have e2:=by simpa only [SV.is] using hv'
   refine key _ _ false (fun d=>?_) (by cases neg <;> exact hk) e1 e2
   simp[Op.equalIn,bJ hte]
  ·rename_i i0 o0 j0 o0' he he'
   obtain⟨rfl,rfl,hk⟩:=hk
   rw[he] at hv;rw[he'] at hv'
   obtain⟨L,b,f1,f2,e1⟩:=by simpa only [SV.is] using hv
   obtain⟨L',b',f1',f2',e2⟩:=by simpa only [SV.is] using hv'
   rw[f1] at f1';cases f1'
   rw[f2] at f2';cases f2'
   refine key _ _ true (fun d=>?_) (by cases neg <;> exact hk) e1 e2
   simp[Op.equalIn,bJ hte,sizeOf,typeInfo,hj,run_sameAddr_same]
  ·exact hk.elim
 ·cases ht
def NG (P:Program) (s d e:TypeId) (k:Nat):Bool:=
 k != 0 && P.cellsOf e==k && (match P.info? e with|some j=>j.size != 0|none=>false) &&
 ((match P.underlying s,P.underlying d with|some (.pointer u),some .unsafePointer=>u==e|_,_=>false) ||
  (match P.underlying s,P.underlying d with|some .unsafePointer,some (.pointer u)=>u==e|_,_=>false))
theorem HG {P:Program} {e:TypeId} {count:Nat} (hc:P.cellsOf e≠0) (hn:1≤count):liesAt P P.depth e count 0 e 1=true:=by
 have hd:P.depth=(2 * (P.types.size+Made.depth)+1)+1:=rfl
 rw[hd]
 simp only[liesAt,Bool.or_eq_true]
 left
 rw[hd]
 simp[rowAt,hc,hn,sameLayout]
theorem UD (R:Rel C N ρ fr m n a w) {s d e:TypeId} {k:Nat} {o:Operand} {x:Opd} (h1:aZ o x=true)
  (ht:NG C.P s d e k=true) (hk:dP T call fr m n K (.cvp e k x)) :
  ∃ z w',(convert s d (a.eval o)).run C.P w=.ok z w'∧m8 C ρ K z w':=by
 have hv:=cU R h1
 simp only[dP] at hk
 split at hk
 ·rename_i i off hx
  rw[hx] at hv
  have hv0:=hv
  obtain⟨L,b,e1,e2,e3⟩:=by simpa only [SV.is] using hv
  split at hk
  ·rename_i e' cells hB
   obtain⟨rfl,rfl,hlen,hk⟩:=hk
   obtain⟨hst,hcp,cs,fz,hh,hsz,hfz⟩:=R.mem.cap (fM hB) rfl e1 e2
   have hsh:w.shape? b=some (e',cs.size):=by unfold World.shape?;rw[hh]
   unfold NG at ht
   simp only[Bool.and_eq_true,Bool.or_eq_true,bne_iff_ne,ne_eq,beq_iff_eq] at ht
   obtain⟨⟨⟨hk0,hck⟩,hj⟩,ht⟩:=ht
   split at hj
   ·rename_i j hj'
    have hj0:j.size≠0:=by simpa using hj
    simp only at hcp
    refine⟨a.eval o,w,?_,bE R hk (by rw[e3];simp only[SV.is];exact⟨L,b,e1,e2,rfl⟩)⟩
    rw[e3,hst]
    rcases ht with ht|ht
    ·split at ht
     ·rename_i u hs hd
      have:u=e':=by simpa using ht
      subst this
      exact Lib.run_to_unsafe w ⟨b,0+0,none⟩ hs hd hj' hj0 hsh (by show 0+0 < cs.size;omega)
     ·cases ht
    ·split at ht
     ·rename_i u hs hd
      have:u=e':=by simpa using ht
      subst this
      refine Lib.run_from_unsafe w ⟨b,0+0,none⟩ hs hd hj' hsh ?_
      refine HG (by rw[hck];exact hk0) ?_
      rw[hck]
      exact (Nat.le_div_iff_mul_le (Nat.pos_of_ne_zero hk0)).2 (by omega)
     ·cases ht
   ·cases hj
  ·exact hk.elim
 ·exact hk.elim
def F5 (P:Program) (f:FuncId):Bool:=match P.funcs[f]? with
 | some fn => fn.name == "internal/abi.NoEscape" && fn.origin == "" && fn.body.isNone
 | none=>false
theorem JW {fn : Func} (h : fn.name = "internal/abi.NoEscape") : Extern.find fn = some Extern.AbiNoEscape.same := by
 unfold Extern.find
 rw[h]
 rfl
theorem Ck {fn : Func} (h : fn.name = "internal/abi.NoEscape") (h2 : fn.origin = "") : Extern.findNext fn = none := by
 unfold Extern.findNext
 rw[h,h2]
 rfl
theorem Lv {P:Program} {f:FuncId} (h:F5 P f=true) (x:Value) (w:World):(callFunc f #[x]).run P w=.ok (.value x) w:=by
 unfold F5 at h
 split at h
 ·rename_i fn hf
  simp only[Bool.and_eq_true,beq_iff_eq] at h
  obtain⟨⟨h1,h2⟩,h3⟩:=h
  rw[run_callFunc_extern hf (by rw[h1];rfl) h3 (Ck h1 h2) (JW h1),Lib.run_noEscape]
  rfl
 ·cases h
theorem RW (R:Rel C N ρ fr m n a w) {o:Operand} {x:Opd} {ts:Array TypeId} {ty:TypeId} {s:Nat} (h1:aZ o x=true) (hs:s≠0)
  (hk:dP T call fr m n K (.sdat s x)):∃ z,(Builtin.unsafeSliceData_ ts ty #[a.eval o]).run C.P w=.ok z w∧m8 C ρ K z w:=by
 have hv:=cU R h1
 simp only[dP] at hk
 split at hk
 ·rename_i i off s' len hx
  rw[hx] at hv
  obtain⟨L,A,e1,e2,e3⟩:=by simpa only [SV.is] using hv
  split at hk
  ·rename_i B hB
   obtain⟨rfl,hlen,hk⟩:=hk
   obtain⟨L',g1,g2⟩:=R.mem.blk i B (fM hB)
   rw[e1] at g1;cases g1
   have hcl:=Blk.okAt_len g2
   have hc0:(L.cap - off) / s'≠0:=by
    have:1≤(L.cap - off) / s':=(Nat.le_div_iff_mul_le (Nat.pos_of_ne_zero hs)).2 (by omega)
    omega
   obtain⟨b,hb⟩:∃ b,L.blk=some b:=by
    unfold Blk.okAt at g2
    cases hb:L.blk with
    | none=>rw[hb] at g2;have:=g2.1;rw[this] at hlen;simp at hlen;omega
    | some b=>exact⟨b,rfl⟩
   have hA:A=some ⟨b,L.st+off,none⟩:=by
    rcases e3 with e3|e3
    ·rw[hb] at e3;exact e3
    ·exact absurd e3.2.1 hc0
   refine⟨.pointer (some ⟨b,L.st+off,none⟩),?_,bE R hk (by simp only[SV.is];exact⟨L,b,e1,hb,rfl⟩)⟩
   rw[e2,hA]
   exact Lib.run_unsafeSliceData_row w ts ty _ len _ hc0
  ·exact hk.elim
 ·exact hk.elim
theorem JX {v:SV} (h:mH v=true) {x:Value} (hx:v.is ρ x):x=.int .u8 ((byteOf v).toNat:Int):=by
 cases v <;> simp only[mH] at h <;> first|cases h|skip
 rename_i k z
 cases k <;> simp only at h <;> first|cases h|skip
 simp only[decide_eq_true_eq] at h
 have e:=by simpa only [SV.is] using hx
 rw[e]
 simp only[byteOf]
 congr 1
 have:z.toNat < 256:=by omega
 simp only[UInt8.toNat_ofNat']
 omega
theorem RX (R:Rel C N ρ fr m n a w) {pt it ty e:TypeId} {o o':Operand} {x y:Opd} (h1:aZ o x=true) (h2:aZ o' y=true)
  (hp:C.P.underlying pt=some (.pointer e)) (hc:C.P.cellsOf e=1) (hk:dP T call fr m n K (.ustr e x y)) :
  ∃ z w',(Builtin.unsafeString_ #[pt,it] ty #[a.eval o,a.eval o']).run C.P w=.ok z w'∧m8 C ρ K z w':=by
 have hv:=cU R h1
 have hv':=cU R h2
 simp only[dP] at hk
 split at hk
 ·rename_i i off l he he'
  rw[he] at hv;rw[he'] at hv'
  obtain⟨L,b,e1,e2,e3⟩:=by simpa only [SV.is] using hv
  have e4:=by simpa only [SV.is] using hv'
  split at hk
  ·rename_i e' cells hB
   obtain⟨rfl,rfl,hl0,hl63,hll,hall,hk⟩:=hk
   obtain⟨hst,hcp,cs,fz,hh,hsz,hfz⟩:=R.mem.cap (fM hB) rfl e1 e2
   have hcells:=tT R.mem hB e1 e2
   simp only at hcp hcells
   have hsh:w.shape? b=some (e',cs.size):=by unfold World.shape?;rw[hh]
   generalize hlst:(cells.take l.toNat).map byteOf=lst at hk
   have hlen:lst.length=l.toNat:=by rw[← hlst];simp;omega
   have hcell:∀ j x,lst[j]?=some x→w.cell? ((⟨b,0,none⟩:Addr).add j)=some (.int .u8 x.toNat):=by
    intro j x hj
    rw[← hlst,List.getElem?_map,Option.map_eq_some_iff] at hj
    obtain⟨v,hv,rfl⟩:=hj
    have hbv:mH v=true:=List.all_eq_true.1 hall v (List.mem_of_getElem? hv)
    have hv2:cells[j]?=some v:=by
     rw[List.getElem?_take] at hv
     split at hv
     ·exact hv
     ·cases hv
    obtain⟨y,q1,q2,q3⟩:=hcells j v hv2
    rw[JX hbv q2,hst,Nat.zero_add] at q1
    have:((⟨b,0,none⟩:Addr).add j)=⟨b,j,none⟩:=by
     unfold Addr.add
     by_cases hj0:j=0
     ·subst hj0;simp
     ·simp[hj0]
    rw[this];exact q1
   have hrun:=Lib.run_unsafeString_row (P:=C.P) w pt it ty e' hp hc b cs.size hsh lst (by intro h;rw[h] at hlen;simp at hlen;omega) (by omega) (by omega) hcell
   have hfr:(w.freeze ⟨b,0,none⟩ lst.length).heap[b]?=some (.cells cs e' (if fz.1==fz.2 then (0,0+lst.length) else (min fz.1 0,max fz.2 (0+lst.length)))):=by
    obtain⟨lo,hi⟩:=fz
    unfold World.freeze
    rw[if_neg (by omega)]
    simp only[Array.getElem?_modify,if_true,hh,Option.map_some]
   have hold:∀ b',b'≠b→(w.freeze ⟨b,0,none⟩ lst.length).heap[b']?=w.heap[b']?:=by
    intro b' hb'
    unfold World.freeze
    rw[if_neg (by omega)]
    simp only[Array.getElem?_modify,Ne.symm hb',if_false]
   have hs':(w.freeze ⟨b,0,none⟩ lst.length).heap.size=w.heap.size:=by
    unfold World.freeze;rw[if_neg (by omega)];simp
   have hsd:((w.freeze ⟨b,0,none⟩ lst.length).os,(w.freeze ⟨b,0,none⟩ lst.length).tape)=(w.os,w.tape)∧(w.freeze ⟨b,0,none⟩ lst.length).output=w.output:=by
    unfold World.freeze;rw[if_neg (by omega)];exact⟨rfl,rfl⟩
   have hblt:b < w.heap.size:=by
    rcases Nat.lt_or_ge b w.heap.size with h'|h'
    ·exact h'
    ·rw[Array.getElem?_eq_none h'] at hh;cases hh
   have hm:=R.mem.replace (B':=⟨.view,cells⟩) (fM hB) (s6 rfl) e1 e2 (by
    unfold Blk.okAt
    rw[e2]
    refine⟨by omega,fun j v hj=>?_,hcp⟩
    obtain⟨y,q1,q2,q3⟩:=hcells j v hj
    refine⟨y,?_,q2,q3⟩
    rw[gW hfr]
    rw[gW hh] at q1
    exact q1) hs' hsd hold
   refine⟨.string ⟨lst.toArray⟩,_,?_,ρ,_,_,_,dO.le_refl _,hk,by simp only[SV.is],hm,R.n0⟩
   rw[e3,e4,hst,show l=((lst.length:Nat):Int) by omega]
   exact hrun
  ·exact hk.elim
 ·exact hk.elim
end
end Go.Sx
