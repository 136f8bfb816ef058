/- The proof, part Ve: EngY, EngZ, EngZa, EngZb, EngZc, EngZd, EngZe, EngXa. -/
import Derived.Test.YtmhkkalbijbplaaGreatDoorVd
import Derived.ChangeSame
import Derived.ChangeArms
import Derived.Lib.LaidTab
set_option linter.unusedSimpArgs false
set_option linter.unusedVariables false
set_option maxRecDepth 100000
set_option maxHeartbeats 16000000
namespace Go.Sx
open Go Go.WideShapes Go.ChangeShapes
def Ep:dO:=fun _=>none
theorem Bp {w w':World} (hs:w'.os=w.os∧w'.output=w.output) (h:∀ b,b < w.heap.size→w'.heap[b]?=w.heap[b]?):w.keptBut w' fun _=>False:=by
 refine⟨hs.1,hs.2,fun i hi=>?_⟩
 rw[h i hi]
 cases ho:w.heap[i]? with
 | none=>rfl
 | some o=>
  cases o <;> simp
def R5 {α:Type} (l:List α):Nat→List α
 | 0=>[]
 | k+1=>l++R5 l k
inductive Ints:List IntKind→List Value→Prop
 | nil:Ints [] []
 | cons {k:IntKind} {n:Int} {ks:List IntKind} {vs:List Value}:(Lit.int k n).wf=true→Ints ks vs→Ints (k :: ks) (.int k n :: vs)
theorem Ints.append {a b:List IntKind} {x y:List Value} (h:Ints a x) (h':Ints b y):Ints (a++b) (x++y):=by
 induction h with
 | nil=>exact h'
 | cons hw _ ih=>exact .cons hw ih
section
variable {H:Type} {enc:TypeId × Value→H} {P:Program} {w:World} {b:Nat} {sp:Nat→Bool} {hd:Bool}
theorem hZ {α β:Type} {f:α→Option β} {a:α} {l:List α} {r:List β} (h:(a :: l).mapM f=some r):∃ y ys,f a=some y∧l.mapM f=some ys∧r=y :: ys:=by
 rw[List.mapM_cons] at h
 cases hf:f a with
 | none=>simp[hf] at h
 | some y=>
  cases hl:l.mapM f with
  | none=>simp[hf,hl] at h
  | some ys=>simp[hf,hl] at h;exact⟨y,ys,rfl,rfl,h.symm⟩
end
inductive LK where
 | t (t:Tag)
 | sl (ks:List Tag)
def BA:List LK→Option (List Tag)
 | []=>some []
 | .t t :: r=>match BA r with
  | some l=>some (t :: l)
  | none=>none
 | .sl _ :: _=>none
def Jd (lay:TypeId→Option (List LK)) (P:Program):List Field→Nat→Option (List LK)
 | [],_=>some []
 | f :: r,o=>match lay f.type,Jd lay P r (o+P.cellsOf f.type) with
  | some a,some b=>if f.offset=o∧a.length=P.cellsOf f.type then some (a++b) else none
  | _,_=>none
def JM (P:Program):Nat→TypeId→Option (List LK)
 | 0,_=>none
 | d+1,t=>match P.underlying t with
  | some .bool=>some [.t .b]
  | some (.int k)=>some [.t (.i k)]
  | some .string=>some [.t .s]
  | some (.slice e)=>match JM P d e with
   | some l=>match BA l with
    | some ks=>if ks.length=P.cellsOf e∧0 < ks.length then some [.sl ks] else none
    | none=>none
   | none=>none
  | some (.struct fs)=>match Jd (JM P d) P fs.toList 0 with
   | some l=>if l.length=P.cellsOf t then some l else none
   | none=>none
  | some (.array n e)=>match JM P d e with
   | some l=>if l.length=P.cellsOf e∧n * l.length=P.cellsOf t then some (R5 l n) else none
   | none=>none
  | _=>none
def B8:Tag→Value→Prop
 | .i k,v=>∃ n,v=.int k n∧(Lit.int k n).wf=true
 | .b,v=>∃ b,v=.bool b
 | .s,v=>∃ s:List UInt8,v=.string ⟨s.toArray⟩∧s.length≤maxLen
def ZU (w:World):LK→Value→Prop
 | .t t,v=>B8 t v
 | .sl ks,v=>∃ A len cap,v=.slice A len cap∧len≤cap∧cap≤maxLen∧0 < ks.length∧(A=none→cap=0) ∧
  (∀ a,A=some a→0 < cap→a.spot=none∧a.block < w.heap.size) ∧
  ∀ a,A=some a→∀ i,i < len→∀ (j:Nat) k,ks[j]?=some k→∃ x,w.cell? ⟨a.block,a.off+(i * ks.length+j),none⟩=some x∧B8 k x
inductive Lks (w:World):List LK→List Value→Prop
 | nil:Lks w [] []
 | cons {k:LK} {v:Value} {ks:List LK} {vs:List Value}:ZU w k v→Lks w ks vs→Lks w (k :: ks) (v :: vs)
theorem Lks.append {w:World} {a b:List LK} {x y:List Value} (h:Lks w a x) (h':Lks w b y):Lks w (a++b) (x++y):=by
 induction h with
 | nil=>exact h'
 | cons hw _ ih=>exact .cons hw ih
theorem Lks.tags {w:World}:∀ {l:List LK} {cs:List Value} {ks:List Tag},Lks w l cs→BA l=some ks→∀ (j:Nat) k,ks[j]?=some k→∃ x,cs[j]?=some x∧B8 k x
 | _,_,ks,.nil,h,j,k,hk=>by simp[BA] at h;subst h;simp at hk
 | .t t :: l,v :: vs,ks,.cons h1 h2,h,j,k,hk=>by
  simp only[BA] at h
  split at h
  ·rename_i q hq
   cases h
   cases j with
   | zero=>simp at hk;subst hk;exact⟨v,rfl,h1⟩
   | succ j=>simpa using Lks.tags h2 hq j k (by simpa using hk)
  ·cases h
 | .sl _ :: _,_ :: _,_,.cons _ _,h,_,_,_=>by simp[BA] at h
section
variable {H:Type} {enc:TypeId × Value→H} {P:Program} {w:World} {hd:Bool}
theorem DH {lay:TypeId→Option (List LK)} {tr:TypeId→List Value→Option (DataW H × List MemPlace)}
  (ih:∀ t cs ks x,lay t=some ks→tr t cs=some x→Lks w ks cs) :
  ∀ (fs:List Field) (o:Nat) (cs:List Value) (ks:List LK) (xs:List (DataW H × List MemPlace)),Jd lay P fs o=some ks →
   fs.mapM (fun f=>tr f.type ((cs.drop f.offset).take (P.cellsOf f.type)))=some xs→o+ks.length≤cs.length →
   Lks w ks ((cs.drop o).take ks.length)
 | [],o,cs,ks,xs,h,hx,_=>by
  simp[Jd] at h;subst h
  simpa using Lks.nil
 | f :: r,o,cs,ks,xs,h,hx,hl=>by
  simp only[Jd] at h
  obtain⟨y,ys,h1,h2,rfl⟩:=hZ hx
  split at h
  ·rename_i a b' ha hb
   split at h
   ·rename_i hq
    cases h
    obtain⟨q1,q2⟩:=hq
    simp only[List.length_append] at hl
    rw[q1] at h1
    have g1:=ih _ _ _ _ ha h1
    have g3:=DH ih r _ cs _ ys hb h2 (by omega)
    have e:(cs.drop o).take (a++b').length=(cs.drop o).take (P.cellsOf f.type)++(cs.drop (o+P.cellsOf f.type)).take b'.length:=by
     rw[List.length_append,q2,List.take_add,List.drop_drop]
    rw[e]
    exact g1.append g3
   ·cases h
  ·cases h
theorem Er {l:List LK} {g:List Value→Option (DataW H × List MemPlace)}
  (ih:∀ cs x,g cs=some x→Lks w l cs) :
  ∀ (n o:Nat) (cs:List Value) (xs:List (DataW H × List MemPlace)),
   (List.range' o n).mapM (fun i=>g ((cs.drop (i * l.length)).take l.length))=some xs→(o+n) * l.length≤cs.length →
   Lks w (R5 l n) ((cs.drop (o * l.length)).take (n * l.length))
 | 0,o,cs,xs,hx,_=>by simpa [R5] using Lks.nil
 | n+1,o,cs,xs,hx,hl=>by
  rw[List.range'_succ] at hx
  obtain⟨y,ys,h1,h2,rfl⟩:=hZ hx
  have g1:=ih _ _ h1
  have g3:=Er ih n (o+1) cs ys h2 (by rw[show o+1+n=o+(n+1) by omega];exact hl)
  have e:(cs.drop (o * l.length)).take ((n+1) * l.length)=(cs.drop (o * l.length)).take l.length++(cs.drop ((o+1) * l.length)).take (n * l.length):=by
   rw[show (n+1) * l.length=l.length+n * l.length by rw[Nat.add_mul];omega,List.take_add,List.drop_drop,Nat.add_mul o 1,Nat.one_mul]
  rw[e]
  exact g1.append g3
theorem BD {base:Nat} {a:Addr} {n:Nat} {cs:List Value} (h:w.cells? base a n=some cs):cs.length=n∧∀ j,j < n→w.cell? (a.add j)=cs[j]?:=by
 unfold World.cells? at h
 split at h
 ·have key:∀ (l:List Nat) (r:List Value),l.mapM (fun i=>w.cell? (a.add i))=some r→r.length=l.length∧∀ (j:Nat) i,l[j]?=some i→w.cell? (a.add i)=r[j]?:=by
   intro l
   induction l with
   | nil=>intro r hr;simp at hr;subst hr;exact⟨rfl,fun j i hj=>by simp at hj⟩
   | cons i l ih=>
    intro r hr
    obtain⟨y,ys,h1,h2,rfl⟩:=hZ hr
    obtain⟨e1,e2⟩:=ih _ h2
    refine⟨by simp[e1],fun j i' hj=>?_⟩
    cases j with
    | zero=>simp at hj;subst hj;simpa using h1
    | succ j=>simpa using e2 j i' (by simpa using hj)
  obtain⟨e1,e2⟩:=key _ _ h
  exact⟨by simpa using e1,fun j hj=>e2 j j (by simp[hj])⟩
 ·cases h
theorem vI {a:Addr} {x:Value} (h:w.cell? a=some x):a.block < w.heap.size:=by
 unfold World.cell? at h
 rcases Nat.lt_or_ge a.block w.heap.size with h'|h'
 ·exact h'
 ·simp[Array.getElem?_eq_none h'] at h
theorem OG {a:Addr} {n:Nat} {x:Value} (h:w.cell? (a.add n)=some x) (hs:a.spot=none):w.cell? ⟨a.block,a.off+n,none⟩=some x:=by
 unfold Addr.add at h
 split at h
 ·rename_i e;subst e
  obtain⟨b,o,s⟩:=a
  simp only at hs;subst hs;simpa using h
 ·exact h
theorem AO:∀ (fuel d:Nat) (t:TypeId) (cs:List Value) (ks:List LK) (x:DataW H × List MemPlace),JM P d t=some ks →
  DataW.trod enc P w 0 (fun _=>true) hd fuel t cs=some x→Lks w ks cs
 | 0,d,t,cs,ks,x,_,hx=>by simp[DataW.trod] at hx
 | fuel+1,0,t,cs,ks,x,h,_=>by simp[JM] at h
 | fuel+1,d+1,t,cs,ks,x,h,hx=>by
  simp only[JM] at h
  split at h
  ·rename_i hu
   cases h
   obtain⟨n,rfl,rfl⟩:=DataW.trod_bool hu hx
   exact .cons ⟨n,rfl⟩ .nil
  ·rename_i k hu
   cases h
   obtain⟨n,rfl,rfl,hw⟩:=DataW.trod_int hu hx
   exact .cons ⟨n,rfl,hw⟩ .nil
  ·rename_i hu
   cases h
   obtain⟨n,rfl,rfl,hw⟩:=DataW.trod_string hu hx
   exact .cons ⟨n.data.toList,by simp,by simpa using hw⟩ .nil
  ·rename_i e hu
   split at h
   ·rename_i l hl
    split at h
    ·rename_i tg htg
     split at h
     ·rename_i hq
      cases h
      obtain⟨q1,q2⟩:=hq
      rcases DataW.trod_slice hu hx with⟨rfl,rfl⟩|⟨a,len,cap,elems,rest,n,hf,rfl,rfl,hb,hlc,hcm,hel,he,hr,_⟩
      ·exact .cons ⟨none,0,0,rfl,Nat.le_refl _,by unfold maxLen;omega,q2,fun _=>rfl,fun a h=>by simp at h,fun a h=>by simp at h⟩ .nil
      ·obtain rfl:fuel=n:=by omega
       obtain⟨hrl,hr⟩:=hr rfl
       have hfirst:0 < cap→a.spot=none∧a.block < w.heap.size:=by
        intro hc
        have:∃ y,(w.cells? 0 (a.add 0) (P.cellsOf e)).bind (DataW.trod enc P w 0 (fun _=>true) hd fuel e)=some y:=by
         by_cases h0:0 < len
         ·have h1:=he 0 h0
          rw[Nat.zero_mul] at h1
          rw[h1,List.getElem?_eq_getElem (by omega)];exact⟨_,rfl⟩
         ·have h1:=hr 0 (by omega)
          rw[show (len+0) * P.cellsOf e=0 by rw[show len+0=0 by omega,Nat.zero_mul]] at h1
          rw[h1,List.getElem?_eq_getElem (by omega)];exact⟨_,rfl⟩
        obtain⟨y,hy⟩:=this
        obtain⟨cs',hcs,_⟩:=Option.bind_eq_some_iff.1 hy
        obtain⟨g1,g2⟩:=BD hcs
        have g3:=g2 0 (by omega)
        rw[List.getElem?_eq_getElem (by omega)] at g3
        have e0:(a.add 0).add 0=a:=by simp[Addr.add]
        rw[e0] at g3
        exact⟨World.cell?_spot g3,vI g3⟩
       refine .cons ⟨some a,len,cap,rfl,hlc,hcm,q2,fun h=>(nomatch h),fun a' h=>by cases h;exact hfirst,fun a' h i hi j k hk=>?_⟩ .nil
       cases h
       have hs:=(hfirst (by omega)).1
       have h1:=he i hi
       rw[List.getElem?_eq_getElem (by omega)] at h1
       obtain⟨cs',hcs,htr⟩:=Option.bind_eq_some_iff.1 h1
       obtain⟨g1,g2⟩:=BD hcs
       have g3:=AO fuel d e cs' l _ hl htr
       obtain⟨x,hx1,hx2⟩:=g3.tags htg j k hk
       have hj:j < tg.length:=by
        rcases Nat.lt_or_ge j tg.length with q|q
        ·exact q
        ·rw[List.getElem?_eq_none q] at hk;cases hk
       have g4:=g2 j (by omega)
       rw[hx1] at g4
       refine⟨x,?_,hx2⟩
       rw[q1]
       have hs':(a.add (i * P.cellsOf e)).spot=none:=by unfold Addr.add;split <;> simp[hs]
       have g5:=OG g4 hs'
       have:(⟨(a.add (i * P.cellsOf e)).block,(a.add (i * P.cellsOf e)).off+j,none⟩:Addr)=⟨a.block,a.off+(i * P.cellsOf e+j),none⟩:=by
        unfold Addr.add;split
        ·rename_i e0;rw[e0];simp
        ·simp[Nat.add_assoc]
       rwa [this] at g5
     ·cases h
    ·cases h
   ·cases h
  ·rename_i fs hu
   split at h
   ·rename_i l hl
    split at h
    ·rename_i hlen
     cases h
     simp only[DataW.trod,hu] at hx
     split at hx
     ·rename_i hcl
      obtain⟨xs,hm,rfl⟩:=Option.map_eq_some_iff.1 hx
      have g1:=DH (P:=P) (lay:=JM P d) (tr:=DataW.trod enc P w 0 (fun _=>true) hd fuel)
       (fun t cs ks x h1 h2=>AO fuel d t cs ks x h1 h2) fs.toList 0 cs _ xs hl hm (by omega)
      rwa [List.drop_zero,List.take_of_length_le (by omega)] at g1
     ·cases hx
    ·cases h
   ·cases h
  ·rename_i n e hu
   split at h
   ·rename_i l hl
    split at h
    ·rename_i hq
     cases h
     obtain⟨q1,q2⟩:=hq
     simp only[DataW.trod,hu] at hx
     split at hx
     ·rename_i hcl
      obtain⟨xs,hm,rfl⟩:=Option.map_eq_some_iff.1 hx
      rw[← q1,List.range_eq_range'] at hm
      have g1:=Er (l:=l) (g:=DataW.trod enc P w 0 (fun _=>true) hd fuel e) (fun cs x h1=>AO fuel d e cs l x hl h1) n 0 cs xs hm (by rw[Nat.zero_add];omega)
      rwa [Nat.zero_mul,List.drop_zero,List.take_of_length_le (by omega)] at g1
     ·cases hx
    ·cases h
   ·cases h
  ·cases h
end
def jP:Tag→SV→Prop
 | .i k,v=>∃ n,v=.int k n∧(Lit.int k n).wf=true
 | .b,v=>∃ b,v=.bool b
 | .s,v=>∃ s:List UInt8,v=.str s∧s.length≤maxLen
def i7:List Tag→List SV→Prop
 | [],vs=>vs=[]
 | t :: ts,vs=>∃ v r,vs=v :: r∧jP t v∧i7 ts r
def jG (ks:List Tag):Nat→List SV→Prop
 | 0,cs=>cs=[]
 | n+1,cs=>∃ r cs',cs=r++cs'∧i7 ks r∧jG ks n cs'
def vX:List LK→Nat→List SV→bL→Nat→Prop
 | [],n,vs,m,n'=>vs=[]∧m=[]∧n'=n
 | .t t :: ks,n,vs,m,n'=>∃ v r,vs=v :: r∧jP t v∧vX ks n r m n'
 | .sl tags :: ks,n,vs,m,n'=>∃ len cells r m',vs=.slc n 0 tags.length len none :: r∧m=(n,⟨.view,cells⟩) :: m'∧len≤maxLen∧jG tags len cells∧vX ks (n+1) r m' n'
def yS:List (Bool × List LK)→Nat→List SV→bL→Nat→Prop
 | [],n,vs,m,n'=>vs=[]∧m=[]∧n'=n
 | (true,ks) :: r,n,vs,m,n'=>∃ l vs' m1 m2 n1,vs=.agg l :: vs'∧m=m1++m2∧vX ks n l m1 n1∧yS r n1 vs' m2 n'
 | (false,ks) :: r,n,vs,m,n'=>∃ v vs' m1 m2 n1,vs=v :: vs'∧m=m1++m2∧vX ks n [v] m1 n1∧yS r n1 vs' m2 n'
def oF (P:Program) (d:Nat):List TypeId→Option (List (Bool × List LK))
 | []=>some []
 | t :: ts=>match JM P d t,oF P d ts with
  | some l,some r=>some (((match P.underlying t with|some (.struct _)|some (.array _ _)=>true|_=>false),l) :: r)
  | _,_=>none
def CH (w:World) (ρ:dO) (n n':Nat) (m:bL):Prop:=∀ i B,(i,B)∈m→B.kind=.view∧n≤i∧i < n'∧∃ L,ρ i=some L∧B.okAt ρ w L
theorem B8.sv {t:Tag} {v:Value} (h:B8 t v):∃ s,jP t s∧v.oneCell'=true∧∀ ρ,s.is ρ v:=by
 cases t with
 | i k=>obtain⟨n,rfl,hw⟩:=h;exact⟨.int k n,⟨n,rfl,hw⟩,rfl,fun ρ=>by simp[SV.is]⟩
 | b=>obtain⟨b,rfl⟩:=h;exact⟨.bool b,⟨b,rfl⟩,rfl,fun ρ=>by simp[SV.is]⟩
 | s=>obtain⟨s,rfl,hl⟩:=h;exact⟨.str s,⟨s,rfl,hl⟩,rfl,fun ρ=>by simp[SV.is]⟩
theorem K2 {cell:Nat→Option Value}:∀ (ks:List Tag) (o:Nat),(∀ (j:Nat) k,ks[j]?=some k→∃ x,cell (o+j)=some x∧B8 k x) →
  ∃ vs,i7 ks vs∧vs.length=ks.length∧∀ (j:Nat) v,vs[j]?=some v→∃ x,cell (o+j)=some x∧x.oneCell'=true∧∀ ρ,v.is ρ x
 | [],o,_=>⟨[],rfl,rfl,fun j v hj=>by simp at hj⟩
 | k :: ks,o,h=>by
  obtain⟨x,hx,ht⟩:=h 0 k rfl
  obtain⟨s,h1,h2,h3⟩:=ht.sv
  obtain⟨vs,g1,g2,g3⟩:=K2 (cell:=cell) ks (o+1) (fun j k hk=>by
   have:=h (j+1) k (by simpa using hk)
   rwa [show o+(j+1)=o+1+j by omega] at this)
  refine⟨s :: vs,⟨s,vs,rfl,h1,g1⟩,by simp[g2],fun j v hj=>?_⟩
  cases j with
  | zero=>simp at hj;subst hj;exact⟨x,by simpa using hx,h2,h3⟩
  | succ j=>
   have:=g3 j v (by simpa using hj)
   rwa [show o+1+j=o+(j+1) by omega] at this
theorem K3 {cell:Nat→Option Value} (ks:List Tag):∀ (len o:Nat),(∀ i,i < len→∀ (j:Nat) k,ks[j]?=some k→∃ x,cell (o+(i * ks.length+j))=some x∧B8 k x) →
  ∃ vs,jG ks len vs∧vs.length=len * ks.length∧∀ (j:Nat) v,vs[j]?=some v→∃ x,cell (o+j)=some x∧x.oneCell'=true∧∀ ρ,v.is ρ x
 | 0,o,_=>⟨[],rfl,by simp,fun j v hj=>by simp at hj⟩
 | len+1,o,h=>by
  obtain⟨r,h1,h2,h3⟩:=K2 (cell:=cell) ks o (fun j k hk=>by simpa using h 0 (by omega) j k hk)
  obtain⟨vs,g1,g2,g3⟩:=K3 (cell:=cell) ks len (o+ks.length) (fun i hi j k hk=>by
   have:=h (i+1) (by omega) j k hk
   rwa [show o+((i+1) * ks.length+j)=o+ks.length+(i * ks.length+j) by rw[Nat.add_mul];omega] at this)
  refine⟨r++vs,⟨r,vs,rfl,h1,g1⟩,by simp[h2,g2,Nat.add_mul,Nat.add_comm],fun j v hj=>?_⟩
  by_cases hjr:j < r.length
  ·rw[List.getElem?_append_left hjr] at hj;exact h3 j v hj
  ·rw[List.getElem?_append_right (by omega)] at hj
   have:=g3 _ v hj
   rwa [show o+ks.length+(j - r.length)=o+j by omega] at this
theorem Ft {w:World} (h0:0 < w.heap.size):∀ {lks:List LK} {cs:List Value} (ρ:dO) (n:Nat),Lks w lks cs→(∀ i,n≤i→ρ i=none) →
  ∃ ρ' svs m n',ρ.le ρ'∧n≤n'∧(∀ i,n'≤i→ρ' i=none)∧vX lks n svs m n'∧SV.isL ρ' svs cs∧(∀ y∈cs,y.oneCell'=true)∧CH w ρ' n n' m
 | _,_,ρ,n,.nil,hf=>⟨ρ,[],[],n,dO.le_refl _,Nat.le_refl _,hf,⟨rfl,rfl,rfl⟩,by simp[SV.isL],by simp,fun i B h=>by simp at h⟩
 | .t t :: ks,v :: vs,ρ,n,.cons h1 h2,hf=>by
  obtain⟨s,g1,g2,g3⟩:=B8.sv h1
  obtain⟨ρ',svs,m,n',q1,q2,q3,q4,q5,q6,q7⟩:=Ft h0 ρ n h2 hf
  refine⟨ρ',s :: svs,m,n',q1,q2,q3,⟨s,svs,rfl,g1,q4⟩,?_,?_,q7⟩
  ·simp only[SV.isL];exact⟨v,vs,rfl,g3 _,q5⟩
  ·intro y hy
   rcases List.mem_cons.1 hy with rfl|hy
   ·exact g2
   ·exact q6 y hy
 | .sl tg :: ks,v :: vs,ρ,n,.cons h1 h2,hf=>by
  obtain⟨A,len,cap,rfl,hlc,hcm,hpos,hnil,hblk,hcell⟩:=h1
  -- where it lies
  have key:∃ (L:Loc) (cells:List SV),jG tg len cells∧(∀ ρ,Blk.okAt ρ w ⟨.view,cells⟩ L)∧∀ ρ:dO,ρ n=some L→(SV.slc n 0 tg.length len none).is ρ (.slice A len cap):=by
   by_cases hc:0 < cap
   ·cases A with
    | none=>exact absurd (hnil rfl) (by omega)
    | some a=>
     obtain⟨hs,hb⟩:=hblk a rfl hc
     obtain⟨cells,r1,r2,r3⟩:=K3 (cell:=fun o=>w.cell? ⟨a.block,o,none⟩) tg len a.off (fun i hi j k hk=>hcell a rfl i hi j k hk)
     refine⟨⟨some a.block,a.off,cap * tg.length⟩,cells,r1,fun ρ=>?_,fun ρ hρ=>?_⟩
     ·unfold Blk.okAt
      exact⟨hb,fun j v hj=>let ⟨x,e1,e2,e3⟩:=r3 j v hj;⟨x,e1,e3 ρ,e2⟩,by rw[r2];exact Nat.mul_le_mul_right _ hlc⟩
     ·simp only[SV.is]
      refine⟨_,some a,hρ,?_,.inl ?_⟩
      ·simp[Nat.mul_div_cancel _ hpos]
      ·obtain⟨b,o,s⟩:=a
       simp only at hs;subst hs;simp
   ·obtain rfl:cap=0:=by omega
    obtain rfl:len=0:=by omega
    cases A with
    | none=>
     refine⟨⟨none,0,0⟩,[],rfl,fun ρ=>?_,fun ρ hρ=>?_⟩
     ·unfold Blk.okAt;exact⟨rfl,rfl⟩
     ·simp only[SV.is];exact⟨_,none,hρ,by simp,.inl rfl⟩
    | some a=>
     refine⟨⟨some 0,0,0⟩,[],rfl,fun ρ=>?_,fun ρ hρ=>?_⟩
     ·unfold Blk.okAt;exact⟨h0,fun j v hj=>by simp at hj,by simp⟩
     ·simp only[SV.is];exact⟨_,some a,hρ,by simp,.inr (by simp)⟩
  obtain⟨L,cells,r1,r2,r3⟩:=key
  have hn:ρ n=none:=hf n (Nat.le_refl _)
  have hle:ρ.le (ρ.set n L):=dO.le_set hn
  obtain⟨ρ',svs,m,n',q1,q2,q3,q4,q5,q6,q7⟩:=Ft h0 (ρ.set n L) (n+1) h2 (fun i hi=>by unfold dO.set;rw[if_neg (by omega)];exact hf i (by omega))
  have hL:ρ' n=some L:=q1 n L (by unfold dO.set;rw[if_pos rfl])
  refine⟨ρ',_,_,n',dO.le_trans hle q1,by omega,q3,⟨len,cells,svs,m,rfl,rfl,by omega,r1,q4⟩,?_,?_,?_⟩
  ·simp only[SV.isL];exact⟨_,_,rfl,r3 ρ' hL,q5⟩
  ·intro y hy
   rcases List.mem_cons.1 hy with rfl|hy
   ·rfl
   ·exact q6 y hy
  ·intro i B hi
   rcases List.mem_cons.1 hi with hi|hi
   ·cases hi;exact⟨rfl,Nat.le_refl _,by omega,L,hL,r2 ρ'⟩
   ·obtain⟨e1,e2,e3,e4⟩:=q7 i B hi
    exact⟨e1,by omega,e3,e4⟩
theorem vX.mono {w:World} {ρ ρ':dO} {n n' n2:Nat} {m:bL} (h:CH w ρ n n' m) (hle:ρ.le ρ') (hn:n'≤n2):CH w ρ' n n2 m:=fun i B hi=>by
 obtain⟨e1,e2,e3,L,e4,e5⟩:=h i B hi
 exact⟨e1,e2,by omega,L,hle _ _ e4,e5.mono hle (fun _ _=>rfl) (Nat.le_refl _)⟩
section
variable {H:Type} {enc:TypeId × Value→H} {P:Program} {w:World}
theorem Lks.len {w:World}:∀ {l:List LK} {cs:List Value},Lks w l cs→cs.length=l.length
 | _,_,.nil=>rfl
 | _,_,.cons _ h=>by simp[Lks.len h]
theorem R6 {d:Nat} {t:TypeId} {l:List LK} {v:Value} {x:DataW H} {ps:List MemPlace} {b:Nat} (hl:JM P d t=some l) (hv:Value.okWide P w .any b t v)
  (h:DataW.Trod enc P w 0 (fun _=>true) true t v x ps) :
  (match P.underlying t with|some (.struct _)|some (.array _ _)=>∃ cs,v=.agg cs.toArray∧Lks w l cs|_=>Lks w l [v]):=by
 obtain⟨fuel,h⟩:=h
 have key:=AO fuel d t _ l _ hl h
 have hv':=hv
 unfold Value.okWide at hv'
 cases d with
 | zero=>simp[JM] at hl
 | succ d=>
  simp only[JM] at hl
  split at hl
  ·rename_i hu;simp only[hu];obtain⟨b,rfl⟩:=okWide_bool hu hv;exact key
  ·rename_i hu;simp only[hu];obtain⟨b,rfl⟩:=okWide_int hu hv;exact key
  ·rename_i hu;simp only[hu];obtain⟨b,rfl⟩:=okWide_string hu hv;exact key
  ·rename_i hu;simp only[hu];obtain⟨a,len,cap,rfl⟩:=okWide_slice hu hv;exact key
  ·rename_i hu;simp only[hu] at hv' ⊢;obtain⟨cs,rfl,_⟩:=hv';exact⟨cs.toList,by simp,key⟩
  ·rename_i hu;simp only[hu] at hv' ⊢;obtain⟨cs,rfl,_⟩:=hv';exact⟨cs.toList,by simp,key⟩
  ·cases hl
theorem K4 (h0:0 < w.heap.size) {d b:Nat}:∀ {ts:List TypeId} {sh:List (Bool × List LK)} {vs:List Value} {ds:List (DataW H)} {ps:List MemPlace} (ρ:dO) (n:Nat),oF P d ts=some sh →
  (∀ (j:Nat) t v,ts[j]?=some t→vs[j]?=some v→Value.okWide P w .any b t v)→DataW.TrodAll enc P w 0 (fun _=>true) true ts vs ds ps→(∀ i,n≤i→ρ i=none) →
  ∃ ρ' svs m n',ρ.le ρ'∧n≤n'∧(∀ i,n'≤i→ρ' i=none)∧yS sh n svs m n'∧SV.isL ρ' svs vs∧CH w ρ' n n' m
 | [],sh,vs,ds,ps,ρ,n,hs,hv,h,hf=>by
  obtain⟨rfl,rfl,rfl⟩:=trodAll_nil h
  simp only[oF,Option.some.injEq] at hs;subst hs
  exact⟨ρ,[],[],n,dO.le_refl _,Nat.le_refl _,hf,⟨rfl,rfl,rfl⟩,by simp[SV.isL],fun i B h=>by simp at h⟩
 | t :: ts,sh,vs,ds,ps,ρ,n,hs,hv,h,hf=>by
  obtain⟨v,vs',d',ds',p,q,rfl,rfl,rfl,h1,h2⟩:=trodAll_cons h
  simp only[oF] at hs
  split at hs
  rotate_left
  ·cases hs
  rename_i l r hl hr
  cases hs
  have ha:=R6 hl (hv 0 t v rfl rfl) h1
  have hrest:=fun ρ n (hf:∀ i,n≤i→ρ i=none)=>K4 h0 ρ n hr (fun j t v ht hvv=>hv (j+1) t v (by simpa using ht) (by simpa using hvv)) h2 hf
  by_cases hag:(match P.underlying t with|some (.struct _)|some (.array _ _)=>true|_=>false)=true
  ·have ha':∃ cs,v=.agg cs.toArray∧Lks w l cs:=by
    split at ha
    ·exact ha
    ·exact ha
    ·rename_i x1 x2
     split at hag
     ·exact absurd (by assumption) (x1 _)
     ·exact absurd (by assumption) (x2 _ _)
     ·cases hag
   obtain⟨cs,rfl,hk⟩:=ha'
   obtain⟨ρ1,svs,m1,n1,q1,q2,q3,q4,q5,q6,q7⟩:=Ft h0 ρ n hk hf
   obtain⟨ρ2,svs',m2,n2,r1,r2,r3,r4,r5,r6⟩:=hrest ρ1 n1 q3
   refine⟨ρ2,.agg svs :: svs',m1++m2,n2,dO.le_trans q1 r1,by omega,r3,?_,?_,?_⟩
   ·rw[hag];exact⟨svs,svs',m1,m2,n1,rfl,rfl,q4,r4⟩
   ·simp only[SV.isL,SV.is];exact⟨_,_,rfl,⟨cs,SV.isL_mono r1 _ _ q5,q6,rfl⟩,r5⟩
   ·intro i B hi
    rcases List.mem_append.1 hi with hi|hi
    ·exact vX.mono q7 r1 r2 i B hi
    ·obtain⟨e1,e2,e3⟩:=r6 i B hi;exact⟨e1,by omega,e3⟩
  ·have hag':(match P.underlying t with|some (.struct _)|some (.array _ _)=>true|_=>false)=false:=by simpa using hag
   have ha':Lks w l [v]:=by
    split at ha
    ·rename_i hu;simp[hu] at hag
    ·rename_i hu;simp[hu] at hag
    ·exact ha
   obtain⟨ρ1,svs,m1,n1,q1,q2,q3,q4,q5,q6,q7⟩:=Ft h0 ρ n ha' hf
   obtain⟨ρ2,svs',m2,n2,r1,r2,r3,r4,r5,r6⟩:=hrest ρ1 n1 q3
   have hlen:=SV.isL_length q5
   obtain⟨s,rfl⟩:∃ s,svs=[s]:=by
    match svs,hlen with
    | [s],_=>exact⟨s,rfl⟩
   refine⟨ρ2,s :: svs',m1++m2,n2,dO.le_trans q1 r1,by omega,r3,?_,?_,?_⟩
   ·rw[hag'];exact⟨s,svs',m1,m2,n1,rfl,rfl,q4,r4⟩
   ·simp only[SV.isL] at q5 ⊢
    obtain⟨y,ys,e,e1,_⟩:=q5
    cases e
    exact⟨_,_,rfl,SV.is_mono r1 _ _ e1,r5⟩
   ·intro i B hi
    rcases List.mem_append.1 hi with hi|hi
    ·exact vX.mono q7 r1 r2 i B hi
    ·obtain⟨e1,e2,e3⟩:=r6 i B hi;exact⟨e1,by omega,e3⟩
end
section
variable {H:Type} {enc:TypeId × Value→H} {P:Program} {w w':World} {sp:Nat→Bool} {hd:Bool}
theorem oG {α β:Type} {f g:α→Option β}:∀ {l:List α} {r:List β},l.mapM f=some r→(∀ x∈l,∀ y,f x=some y→g x=some y)→l.mapM g=some r
 | [],r,h,_=>by simpa using h
 | a :: l,r,h,hg=>by
  obtain⟨y,ys,h1,h2,rfl⟩:=hZ h
  rw[List.mapM_cons,hg a List.mem_cons_self y h1,oG h2 fun x hx=>hg x (List.mem_cons_of_mem _ hx)];rfl
theorem yA (hh:∀ b,b < w.heap.size→w'.heap[b]?=w.heap[b]?) (hsp:∀ b,b < w.heap.size→sp b=true) :
  ∀ (fuel d:Nat) (t:TypeId) (cs:List Value) (l:List LK) (x:DataW H × List MemPlace),JM P d t=some l →
   DataW.trod enc P w 0 (fun _=>true) hd fuel t cs=some x→DataW.trod enc P w' 0 sp hd fuel t cs=some x
 | 0,d,t,cs,l,x,_,hx=>by simp[DataW.trod] at hx
 | fuel+1,0,t,cs,l,x,h,_=>by simp[JM] at h
 | fuel+1,d+1,t,cs,l,x,h,hx=>by
  have hxx:=hx
  simp only[JM] at h
  have hcell:∀ a y,w.cell? a=some y→w'.cell? a=some y:=fun a y hy=>by
   have hb:=vI hy
   unfold World.cell? at hy ⊢;rw[hh _ hb];exact hy
  split at h
  ·rename_i hu;obtain⟨n,rfl,rfl⟩:=DataW.trod_bool hu hx;simp[DataW.trod,hu]
  ·rename_i k hu;obtain⟨n,rfl,rfl,hw⟩:=DataW.trod_int hu hx;simp[DataW.trod,hu,hw]
  ·rename_i hu;obtain⟨n,rfl,rfl,hw⟩:=DataW.trod_string hu hx;simp[DataW.trod,hu,hw]
  ·rename_i e hu
   split at h
   ·rename_i l' hl
    split at h
    ·rename_i tg htg
     split at h
     ·rename_i hq
      obtain⟨q1,q2⟩:=hq
      rcases DataW.trod_slice hu hx with⟨rfl,rfl⟩|⟨a,len,cap,elems,rest,n,hf,rfl,rfl,hb,hlc,hcm,hel,he,hr,_⟩
      ·simp[DataW.trod,hu]
      ·have helem:∀ (o:Nat) (y:DataW H × List MemPlace),(w.cells? 0 (a.add o) (P.cellsOf e)).bind (DataW.trod enc P w 0 (fun _=>true) hd fuel e)=some y →
         a.block < w.heap.size∧(w'.cells? 0 (a.add o) (P.cellsOf e)).bind (DataW.trod enc P w' 0 sp hd fuel e)=some y:=by
        intro o y hy
        obtain⟨cs',hcs,htr⟩:=Option.bind_eq_some_iff.1 hy
        have hblk:a.block < w.heap.size:=by
         obtain⟨g1,g2⟩:=BD hcs
         have g3:=g2 0 (by omega)
         rw[List.getElem?_eq_getElem (by omega)] at g3
         have:=vI g3
         have e1:((a.add o).add 0).block=a.block:=by unfold Addr.add;by_cases ho:o=0 <;> simp[ho]
         rwa [e1] at this
        refine⟨hblk,?_⟩
        have hcs':w'.cells? 0 (a.add o) (P.cellsOf e)=some cs':=by
         unfold World.cells? at hcs ⊢
         split at hcs
         ·rename_i hb;rw[if_pos hb];exact oG hcs fun i _ y hy=>hcell _ y hy
         ·cases hcs
        rw[hcs']
        exact yA hh hsp fuel d e cs' l' y hl htr
       simp only[DataW.trod,hu] at hx ⊢
       split at hx
       ·rename_i hc
        rw[if_pos hc]
        obtain⟨els,m1,m2⟩:=Option.bind_eq_some_iff.1 hx
        obtain⟨rs,m3,m4⟩:=Option.map_eq_some_iff.1 m2
        rw[if_pos trivial] at m3
        rw[oG m1 fun i _ y hy=>(helem _ y hy).2]
        simp only[Option.bind_some]
        have hr':(if sp a.block=true then (List.range (cap - len)).mapM fun j=>(w'.cells? 0 (a.add ((len+j) * P.cellsOf e)) (P.cellsOf e)).bind (DataW.trod enc P w' 0 sp hd fuel e) else some [])=some rs:=by
         by_cases h0:cap - len=0
         ·rw[h0] at m3 ⊢
          simp at m3;subst m3
          split <;> simp
         ·have hb:a.block < w.heap.size:=by
           have hrg:List.range (cap - len)=0 :: (List.range (cap - len - 1)).map (·+1):=by
            rw[show cap - len=(cap - len - 1)+1 by omega,List.range_succ_eq_map];simp
           rw[hrg] at m3
           obtain⟨y,ys,k1,_,_⟩:=hZ m3
           exact (helem _ y k1).1
          rw[if_pos (hsp _ hb)]
          exact oG m3 fun i _ y hy=>(helem _ y hy).2
        rw[hr',← m4];rfl
       ·cases hx
     ·cases h
    ·cases h
   ·cases h
  ·rename_i fs hu
   split at h
   ·rename_i l' hl
    simp only[DataW.trod,hu] at hx ⊢
    split at hx
    ·rename_i hc
     rw[if_pos hc]
     obtain⟨xs,m1,m2⟩:=Option.map_eq_some_iff.1 hx
     have hfs:∀ (fs:List Field) (o:Nat) (l:List LK),Jd (JM P d) P fs o=some l→∀ f∈fs,∃ lf,JM P d f.type=some lf:=by
      intro fs
      induction fs with
      | nil=>intro o l _ f hf;simp at hf
      | cons f r ih=>
       intro o l hl g hg
       simp only[Jd] at hl
       split at hl
       ·rename_i a b ha hb
        rcases List.mem_cons.1 hg with rfl|hg
        ·exact⟨_,ha⟩
        ·exact ih _ _ hb g hg
       ·cases hl
     rw[oG m1 fun f hf y hy=>by
      obtain⟨lf,hlf⟩:=hfs _ _ _ hl f hf
      exact yA hh hsp fuel d f.type _ lf y hlf hy]
     rw[← m2];rfl
    ·cases hx
   ·cases h
  ·rename_i n e hu
   split at h
   ·rename_i l' hl
    simp only[DataW.trod,hu] at hx ⊢
    split at hx
    ·rename_i hc
     rw[if_pos hc]
     obtain⟨xs,m1,m2⟩:=Option.map_eq_some_iff.1 hx
     rw[oG m1 fun i _ y hy=>yA hh hsp fuel d e _ l' y hl hy]
     rw[← m2];rfl
    ·cases hx
   ·cases h
  ·cases h
theorem AP (hh:∀ b,b < w.heap.size→w'.heap[b]?=w.heap[b]?) (hsp:∀ b,b < w.heap.size→sp b=true) {d:Nat} :
  ∀ {ts:List TypeId} {sh:List (Bool × List LK)} {vs:List Value} {ds:List (DataW H)} {ps:List MemPlace},oF P d ts=some sh →
   DataW.TrodAll enc P w 0 (fun _=>true) hd ts vs ds ps→DataW.TrodAll enc P w' 0 sp hd ts vs ds ps
 | [],sh,vs,ds,ps,_,h=>by
  obtain⟨rfl,rfl,rfl⟩:=trodAll_nil h;rfl
 | t :: ts,sh,vs,ds,ps,hs,h=>by
  obtain⟨v,vs',d',ds',p,q,rfl,rfl,rfl,⟨fuel,h1⟩,h2⟩:=trodAll_cons h
  simp only[oF] at hs
  split at hs
  rotate_left
  ·cases hs
  rename_i l r hl hr
  exact⟨p,q,⟨fuel,yA hh hsp fuel d t _ l _ hl h1⟩,AP hh hsp hr h2,rfl⟩
end
theorem B9 {H:Type} {enc:TypeId × Value→H} {P:Program} {w:World} {b:Nat} {sp:Nat→Bool} {hd:Bool}:∀ {ts:List TypeId} {vs:List Value} {ds:List (DataW H)} {ps:List MemPlace},
  DataW.TrodAll enc P w b sp hd ts vs ds ps→ds.length=ts.length
 | [],vs,ds,ps,h=>by obtain⟨rfl,rfl,rfl⟩:=trodAll_nil h;rfl
 | t :: ts,vs,ds,ps,h=>by
  obtain⟨v,vs',d',ds',p,q,rfl,rfl,rfl,_,h2⟩:=trodAll_cons h
  simp[B9 h2]
theorem oH {H:Type} {enc:TypeId × Value→H} {P:Program} {T:List (Nat × List SV)} {f:FuncId} {fn:Func} {s:ChangeSpec} {apart fresh handsOn:Bool} {W:World} {base:Nat} {args:Array Value} {ds gs:List (DataW H)} {before:List MemPlace}
  {d:Nat} {sh:List (Bool × List LK)} {tb:TypeId}
  (hsh:oF P d fn.params.toList=some sh) (hvs:s.vars=[]) (hres:fn.resultTypes=#[tb]) (htb:P.underlying tb=some .bool)
  (hspec:∀ ds:List (DataW H),ds.length=fn.params.toList.length→(s.fn H ds).results=[.lit (.bool true)]∧(s.fn H ds).args=ds∧(s.fn H ds).vars=[])
  (F:∀ svs m n,yS sh 0 svs m n→Fun P T f svs m n (.bool true) [] n)
  (hT:wA T W) (h0:0 < W.heap.size)
  (hval:∀ (j:Nat) t v,fn.params[j]?=some t→args[j]?=some v→Value.okWide P W .any base t v)
  (hW:DataW.Whole enc P fn.params.toList s.vars apart W args.toList ds gs before) :
  Calls P f args W fun e W'=>∃ v,e=.returned v∧s.post enc P fn apart fresh handsOn false W args v W':=by
 have hW':=hW
 obtain⟨p,q,hA,hV,rfl,hfz,hnd⟩:=hW
 rw[hvs] at hV
 have hgs:gs=[]∧q=[]:=by
  cases gs with
  | nil=>exact⟨rfl,hV⟩
  | cons g gs=>simp[DataW.TrodVars] at hV
 obtain⟨rfl,rfl⟩:=hgs
 obtain⟨ρ,svs,m,n,_,_,hfr,hop,hvl,hvw⟩:=K4 (enc:=enc) h0 (d:=d) (b:=base) Ep 0 hsh (fun j t v ht hv=>hval j t v (by simpa using ht) (by simpa using hv)) hA (fun i _=>rfl)
 have hnv:∀ i B,(i,B)∈m→¬ B.own:=fun i B hi he=>he (hvw i B hi).1
 have R:MemOk (pM P T ρ m n W) ρ m n W:=by
  refine⟨fun i B hi=>(hvw i B hi).2.2.2,fun i B j B' L L' b hi _ _ ho=>absurd ho (hnv i B hi),hfr,fun i B L b hi ho=>absurd ho (hnv i B hi),Nat.le_refl _,fun _ _ _=>rfl,fun _ _=>rfl,rfl,rfl⟩
 have X:CtxOk (pM P T ρ m n W):=⟨hT,fun g cs _ ho=>by obtain⟨i,B,L,h,ho,_⟩:=ho;exact hnv i B h ho⟩
 have:=(F svs m n hop).run ρ W args.toList R X hvl
 rw[Array.toArray_toList] at this
 refine this.mono ?_
 rintro e W' ⟨x,ρ',rfl,_,h2,h3⟩
 have hx:x=.bool true:=by simpa only [SV.is] using h2
 subst hx
 have hh:∀ b,b < W.heap.size→W'.heap[b]?=W.heap[b]?:=fun b hb=>h3.frame b hb (fun ho=>by obtain⟨i,B,L,h,ho,_⟩:=ho;exact hnv i B h ho)
 have hlen:ds.length=fn.params.toList.length:=B9 hA
 have hsp:=hspec (ds++[]) (by simpa using hlen)
 refine⟨_,rfl,ds,[],p++[],[],p,[],hW',?_,?_,?_,?_,fun h=>by cases h⟩
 ·rw[hsp.1,hres]
  exact⟨[],[],⟨1,by simp[DataW.trod,htb,Value.cells]⟩,rfl,rfl⟩
 ·rw[hsp.2.1,List.append_nil]
  exact AP hh (fun b hb=>by simpa using hb) hsh hA
 ·rw[hsp.2.2,hvs];rfl
 ·exact World.keptBut_mono (fun p hp=>hp.elim) (Bp ⟨congrArg Prod.fst h3.side.1,h3.side.2⟩ hh)
mutual
def fJ {H:Type}:DataW H→List Value
 | .lit (.int k n)=>[.int k n]
 | .lit (.bool b)=>[.bool b]
 | .lit (.string s)=>[.string ⟨s.toArray⟩]
 | .agg parts=>nO parts
 | _=>[]
def nO {H:Type}:List (DataW H)→List Value
 | []=>[]
 | d :: r=>fJ d++nO r
end
def DI (fl:TypeId→Option Nat) (P:Program):List Field→Nat→Option Nat
 | [],o=>some o
 | f :: r,o=>match fl f.type with
  | some a=>if f.offset=o∧a=P.cellsOf f.type then DI fl P r (o+a) else none
  | none=>none
def wU (P:Program):Nat→TypeId→Option Nat
 | 0,_=>none
 | d+1,t=>match P.underlying t with
  | some .bool|some (.int _)|some .string=>some 1
  | some (.struct fs)=>match DI (wU P d) P fs.toList 0 with
   | some n=>if n=P.cellsOf t then some n else none
   | none=>none
  | some (.array n e)=>match wU P d e with
   | some a=>if a=P.cellsOf e∧n * a=P.cellsOf t then some (n * a) else none
   | none=>none
  | _=>none
section
variable {H:Type} {enc:TypeId × Value→H} {P:Program} {w:World} {sp:Nat→Bool} {hd:Bool} {b:Nat}
theorem Ba {fl:TypeId→Option Nat} {tr:TypeId→List Value→Option (DataW H × List MemPlace)}
  (ih:∀ t cs a x,fl t=some a→tr t cs=some x→cs.length=a→cs=fJ x.1) :
  ∀ (fs:List Field) (o:Nat) (cs:List Value) (n:Nat) (xs:List (DataW H × List MemPlace)),DI fl P fs o=some n →
   fs.mapM (fun f=>tr f.type ((cs.drop f.offset).take (P.cellsOf f.type)))=some xs→n≤cs.length→o≤n ∧
   (cs.drop o).take (n - o)=nO (xs.map (·.1))
 | [],o,cs,n,xs,h,hx,_=>by
  simp[DI] at h;subst h
  simp at hx;subst hx
  simp[nO]
 | f :: r,o,cs,n,xs,h,hx,hl=>by
  simp only[DI] at h
  obtain⟨y,ys,h1,h2,rfl⟩:=hZ hx
  split at h
  ·rename_i a ha
   split at h
   ·rename_i hq
    obtain⟨q1,q2⟩:=hq
    obtain⟨g0,g3⟩:=Ba ih r _ cs _ ys h h2 hl
    rw[q1,← q2] at h1
    have g1:=ih _ _ _ _ ha h1 (by simp;omega)
    refine⟨by omega,?_⟩
    simp only[List.map_cons,nO]
    rw[← g1,← g3]
    have:n - o=a+(n - (o+a)):=by omega
    rw[this,List.take_add,List.drop_drop]
   ·cases h
  ·cases h
theorem DJ {a:Nat} {g:List Value→Option (DataW H × List MemPlace)}
  (ih:∀ cs x,g cs=some x→cs.length=a→cs=fJ x.1) :
  ∀ (n o:Nat) (cs:List Value) (xs:List (DataW H × List MemPlace)),
   (List.range' o n).mapM (fun i=>g ((cs.drop (i * a)).take a))=some xs→(o+n) * a≤cs.length →
   (cs.drop (o * a)).take (n * a)=nO (xs.map (·.1))
 | 0,o,cs,xs,hx,_=>by simp at hx;subst hx;simp[nO]
 | n+1,o,cs,xs,hx,hl=>by
  rw[List.range'_succ] at hx
  obtain⟨y,ys,h1,h2,rfl⟩:=hZ hx
  have hl1:o * a+a≤cs.length:=by
   have:(o+(n+1)) * a=o * a+a+n * a:=by rw[Nat.add_mul,Nat.add_mul];omega
   omega
  have g1:=ih _ _ h1 (by simp;omega)
  have g3:=DJ ih n (o+1) cs ys h2 (by rw[show o+1+n=o+(n+1) by omega];exact hl)
  simp only[List.map_cons,nO]
  rw[← g1,← g3,show (n+1) * a=a+n * a by rw[Nat.add_mul];omega,List.take_add,List.drop_drop,Nat.add_mul o 1,Nat.one_mul]
theorem BE:∀ (fuel d:Nat) (t:TypeId) (cs:List Value) (a:Nat) (x:DataW H × List MemPlace),wU P d t=some a →
  DataW.trod enc P w b sp hd fuel t cs=some x→cs.length=a→cs=fJ x.1
 | 0,d,t,cs,a,x,_,hx,_=>by simp[DataW.trod] at hx
 | fuel+1,0,t,cs,a,x,h,_,_=>by simp[wU] at h
 | fuel+1,d+1,t,cs,a,x,h,hx,hlen=>by
  simp only[wU] at h
  split at h
  ·rename_i hu;obtain⟨n,rfl,rfl⟩:=DataW.trod_bool hu hx;rfl
  ·rename_i hu;obtain⟨n,rfl,rfl,hw⟩:=DataW.trod_int hu hx;rfl
  ·rename_i hu;obtain⟨n,rfl,rfl,hw⟩:=DataW.trod_string hu hx;simp[fJ]
  ·rename_i fs hu
   split at h
   ·rename_i n hn
    split at h
    ·rename_i hc
     cases h
     simp only[DataW.trod,hu] at hx
     split at hx
     ·obtain⟨xs,hm,rfl⟩:=Option.map_eq_some_iff.1 hx
      obtain⟨_,g⟩:=Ba (P:=P) (fl:=wU P d) (tr:=DataW.trod enc P w b sp hd fuel)
       (fun t cs a x h1 h2 h3=>BE fuel d t cs a x h1 h2 h3) fs.toList 0 cs _ xs hn hm (by omega)
      simp only[List.drop_zero,Nat.sub_zero] at g
      rw[List.take_of_length_le (by omega)] at g
      simpa [fJ] using g
     ·cases hx
    ·cases h
   ·cases h
  ·rename_i n e hu
   split at h
   ·rename_i a' ha
    split at h
    ·rename_i hq
     cases h
     obtain⟨q1,q2⟩:=hq
     simp only[DataW.trod,hu] at hx
     split at hx
     ·obtain⟨xs,hm,rfl⟩:=Option.map_eq_some_iff.1 hx
      rw[← q1,List.range_eq_range'] at hm
      have g:=DJ (a:=a') (g:=DataW.trod enc P w b sp hd fuel e) (fun cs x h1 h3=>BE fuel d e cs a' x ha h1 h3) n 0 cs xs hm (by rw[Nat.zero_add];omega)
      rw[Nat.zero_mul,List.drop_zero,List.take_of_length_le (by omega)] at g
      simpa [fJ] using g
     ·cases hx
    ·cases h
   ·cases h
  ·cases h
theorem OH {fuel d:Nat} {t:TypeId} {cs:List Value} {a:Nat} {x:DataW H × List MemPlace} (h:wU P d t=some a) (hx:DataW.trod enc P w b sp hd fuel t cs=some x):cs.length=a:=by
 cases fuel with
 | zero=>simp[DataW.trod] at hx
 | succ fuel=>
 cases d with
 | zero=>simp[wU] at h
 | succ d=>
  simp only[wU] at h
  split at h
  ·rename_i hu;cases h;obtain⟨n,rfl,rfl⟩:=DataW.trod_bool hu hx;rfl
  ·rename_i hu;cases h;obtain⟨n,rfl,rfl,hw⟩:=DataW.trod_int hu hx;rfl
  ·rename_i hu;cases h;obtain⟨n,rfl,rfl,hw⟩:=DataW.trod_string hu hx;rfl
  ·rename_i fs hu
   split at h
   ·split at h
    ·rename_i hc
     cases h
     simp only[DataW.trod,hu] at hx
     split at hx
     ·omega
     ·cases hx
    ·cases h
   ·cases h
  ·rename_i n e hu
   split at h
   ·split at h
    ·rename_i hq
     cases h
     simp only[DataW.trod,hu] at hx
     split at hx
     ·omega
     ·cases hx
    ·cases h
   ·cases h
  ·cases h
end
def Hf:Value→SV
 | .int k n=>.int k n
 | .bool b=>.bool b
 | .string s=>.str s.data.toList
 | v=>.val v
theorem OI (ρ:dO) (v:Value):(Hf v).is ρ v:=by
 unfold Hf
 split <;> simp[SV.is]
mutual
theorem DK {H:Type}:∀ (d:DataW H),∀ v∈fJ d,v.oneCell'=true
 | .lit (.int k n),v,h=>by simp[fJ] at h;subst h;rfl
 | .lit (.bool b),v,h=>by simp[fJ] at h;subst h;rfl
 | .lit (.string s),v,h=>by simp[fJ] at h;subst h;rfl
 | .lit (.float k b),v,h=>by simp[fJ] at h
 | .agg parts,v,h=>Bb parts v (by simpa [fJ] using h)
 | .nil,v,h=>by simp[fJ] at h
 | .ptr _,v,h=>by simp[fJ] at h
 | .slice _ _,v,h=>by simp[fJ] at h
 | .iface _ _,v,h=>by simp[fJ] at h
 | .map _,v,h=>by simp[fJ] at h
 | .held _,v,h=>by simp[fJ] at h
theorem Bb {H:Type}:∀ (l:List (DataW H)),∀ v∈nO l,v.oneCell'=true
 | [],v,h=>by simp[nO] at h
 | d :: r,v,h=>by
  simp only[nO,List.mem_append] at h
  rcases h with h|h
  ·exact DK d v h
  ·exact Bb r v h
end
theorem Bc {P:Program} {W:World} {laid:List (String × DataW Unit)} {ps:List MemPlace} (h:DataW.LaidVars P W laid ps) {name:String} {x:DataW Unit} (hm:(name,x)∈laid)
  {g:Nat} {t:TypeId} {d a:Nat} (hg:P.globalNamed name=some g) (hty:(P.globals[g]?).map (·.type)=some t) (hf:wU P d t=some a) (ha:(fJ x).length=a) (hpos:0 < a) :
  g < W.heap.size∧∀ (j:Nat) v,((fJ x).map Hf)[j]?=some v→∃ y,W.cell? ⟨g,j,none⟩=some y∧v.is (fun _=>none) y∧y.oneCell'=true:=by
 induction laid generalizing ps with
 | nil=>simp at hm
 | cons y r ih=>
  obtain⟨n0,d0⟩:=y
  obtain⟨g',t',cs,fuel,p,q,hg',ht',hvar,hd,hr,_⟩:=h
  rcases List.mem_cons.1 hm with e|hm
  ·cases e
   obtain rfl:=Option.some.inj (hg.symm.trans hg')
   obtain rfl:=Option.some.inj (hty.symm.trans ht')
   have hcs:=BE fuel d t cs.toList a _ hf hd (OH hf hd)
   have hcell:∀ j,W.cell? ⟨g,j,none⟩=(fJ x)[j]?:=fun j=>by
    have:=World.var?_cell hg hvar j
    rw[this,← hcs];simp
   refine⟨?_,fun j v hj=>?_⟩
   ·have h0:=hcell 0
    rw[List.getElem?_eq_getElem (by omega)] at h0
    exact Mt h0
   ·rw[List.getElem?_map] at hj
    obtain⟨y,hy,rfl⟩:=Option.map_eq_some_iff.1 hj
    exact⟨y,by rw[hcell j,hy],OI _ _,DK x y (List.mem_of_getElem? hy)⟩
  ·exact ih hr hm
theorem jP.flat {t:Tag} {v:SV} (h:jP t v):v.flat=true:=by
 cases t with
 | i k=>obtain⟨_,rfl,_⟩:=h;rfl
 | b=>obtain⟨_,rfl⟩:=h;rfl
 | s=>obtain⟨_,rfl,_⟩:=h;rfl
theorem i7.flat:∀ {ks:List Tag} {vs:List SV},i7 ks vs→SV.flatL vs=true
 | [],vs,h=>by simp only[i7] at h;subst h;rfl
 | t :: ts,vs,h=>by
  obtain⟨v,r,rfl,h1,h2⟩:=h
  simp only[SV.flatL,h1.flat,i7.flat h2,Bool.and_self]
theorem i7.len:∀ {ks:List Tag} {vs:List SV},i7 ks vs→vs.length=ks.length
 | [],vs,h=>by simp only[i7] at h;subst h;rfl
 | t :: ts,vs,h=>by
  obtain⟨v,r,rfl,h1,h2⟩:=h
  simp[i7.len h2]
theorem SV.flatL_append:∀ {a b:List SV},SV.flatL a=true→SV.flatL b=true→SV.flatL (a++b)=true
 | [],b,_,h=>h
 | x :: a,b,h,h'=>by
  simp only[SV.flatL,Bool.and_eq_true] at h
  simp only[List.cons_append,SV.flatL,h.1,SV.flatL_append h.2 h',Bool.and_self]
theorem jG.flat {ks:List Tag}:∀ {n:Nat} {vs:List SV},jG ks n vs→SV.flatL vs=true
 | 0,vs,h=>by simp only[jG] at h;subst h;rfl
 | n+1,vs,h=>by
  obtain⟨r,cs,rfl,h1,h2⟩:=h
  exact SV.flatL_append h1.flat (jG.flat h2)
theorem jG.len {ks:List Tag}:∀ {n:Nat} {vs:List SV},jG ks n vs→vs.length=n * ks.length
 | 0,vs,h=>by simp only[jG] at h;subst h;simp
 | n+1,vs,h=>by
  obtain⟨r,cs,rfl,h1,h2⟩:=h
  simp[h1.len,jG.len h2,Nat.add_mul,Nat.add_comm]
theorem jG.ren {ks:List Tag} {n:Nat} {vs:List SV} (h:jG ks n vs) (η:Nat→Nat × Nat):SV.renL η vs=vs:=SV.flatL_ren η vs h.flat
theorem jG.row {ks:List Tag}:∀ {n:Nat} {vs:List SV} {i:Nat},jG ks n vs→i < n→∃ r,i7 ks r∧(vs.drop (i * ks.length)).take ks.length=r
 | 0,vs,i,h,hi=>by omega
 | n+1,vs,i,h,hi=>by
  obtain⟨r,cs,rfl,h1,h2⟩:=h
  cases i with
  | zero=>exact⟨r,h1,by rw[Nat.zero_mul,List.drop_zero,← h1.len,List.take_left'];rfl⟩
  | succ i=>
   obtain⟨r',g1,g2⟩:=jG.row h2 (i:=i) (by omega)
   refine⟨r',g1,?_⟩
   rw[← g2,Nat.add_mul,Nat.one_mul,Nat.add_comm,← List.drop_drop,← h1.len,List.drop_left'];rfl
abbrev Je:=BitVec 32
theorem K5 (n:Int):IntKind.u32.wrap n=n % 4294967296:=by
 simp[IntKind.wrap,IntKind.bits,IntKind.signed]
theorem o6 (n:Nat):IntKind.u32.wrap (n:Int)=((n % 4294967296:Nat):Int):=by rw[K5];simp
theorem ZV (x:Je):x.toNat < 4294967296:=x.isLt
theorem Jf (x:Je):IntKind.u32.wrap (x.toNat:Int)=(x.toNat:Int):=by
 rw[o6,Nat.mod_eq_of_lt (ZV x)]
theorem Fu (x:Je):BitVec.ofInt IntKind.u32.bits (x.toNat:Int)=x:=by
 show BitVec.ofInt 32 (x.toNat:Int)=x
 simp
theorem WT (x y:Je):dL .and .u32 (x.toNat:Int) (y.toNat:Int)=((x &&& y).toNat:Int):=by
 unfold dL;simp only[Fu];exact Jf (x &&& y)
theorem MM (x y:Je):dL .or .u32 (x.toNat:Int) (y.toNat:Int)=((x ||| y).toNat:Int):=by
 unfold dL;simp only[Fu];exact Jf (x ||| y)
theorem TR (x y:Je):dL .xor .u32 (x.toNat:Int) (y.toNat:Int)=((x ^^^ y).toNat:Int):=by
 unfold dL;simp only[Fu];exact Jf (x ^^^ y)
theorem WU (x:Je):dL .xor .u32 (if IntKind.u32.signed then -1 else IntKind.u32.max) (x.toNat:Int)=((~~~x).toNat:Int):=by
 have h:(if IntKind.u32.signed then (-1:Int) else IntKind.u32.max)=(((-1:Je).toNat:Nat):Int):=by decide
 rw[h,TR]
 congr 2
theorem Hg (x:Je) (s:Nat) (h:s≤32):IntKind.u32.wrap ((x.toNat:Int) * 2 ^ (min s IntKind.u32.bits))=((x <<< s).toNat:Int):=by
 have:min s IntKind.u32.bits=s:=Nat.min_eq_left (by show s≤32;exact h)
 rw[this,BitVec.toNat_shiftLeft,Nat.shiftLeft_eq]
 have:((x.toNat:Int) * 2 ^ s)=((x.toNat * 2 ^ s:Nat):Int):=by simp
 rw[this,o6]
theorem TS (x:Je) (s:Nat) (h:s≤32):((x.toNat:Int).fdiv (2 ^ (min s IntKind.u32.bits)))=((x >>> s).toNat:Int):=by
 have:min s IntKind.u32.bits=s:=Nat.min_eq_left (by show s≤32;exact h)
 rw[this,BitVec.toNat_ushiftRight,Nat.shiftRight_eq_div_pow]
 have:((2:Int) ^ s)=((2 ^ s:Nat):Int):=by simp
 rw[this]
 exact Int.ofNat_fdiv _ _ |>.symm
def WV (r:Nat) (x:Je):Je:=x <<< (32 - r) ||| x >>> r
end Go.Sx
