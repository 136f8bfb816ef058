/- The proof, part Vl: DgA, DgB, BldA, DgC, DgD, DgE, ApB, ApC, DgF. -/
import Derived.Test.YtmhkkalbijbplaaGreatDoorVi
import Derived.Test.YtmhkkalbijbplaaGreatDoorVj
set_option linter.unusedSimpArgs false
set_option linter.unusedVariables false
set_option maxRecDepth 100000
set_option maxHeartbeats 16000000
namespace Go.Proofs.YtmhkkalbijbplaaGreatDoor
open Go Go.Sx
variable {tS:List (Nat × List SV)}
def Al (d:List UInt8) (i:Nat):Nat:=(d.getD (i / 2) 0).toNat / (if i % 2=0 then 16 else 1) % 16
def Bw (d:List UInt8) (i:Nat):List Int:=(List.range i).map fun j=>(Al d j:Int)
def eQ (d:List UInt8):Nat→Nat
 | 0=>0
 | i+1=>eQ d i+(15 - Al d i)
theorem GK (d:List UInt8) (i:Nat):Al d i≤15:=by unfold Al;omega
theorem CO (d:List UInt8):∀ i,eQ d i≤15 * i
 | 0=>Nat.le_refl _
 | i+1=>by have:=CO d i;simp only[eQ];omega
theorem iP (d:List UInt8) (i:Nat):(Bw d i).length=i:=by simp[Bw]
theorem DX (d:List UInt8) (i:Nat):Bw d i++[(Al d i:Int)]=Bw d (i+1):=by
 unfold Bw
 rw[List.range_succ,List.map_append];rfl
def mO (d:List UInt8):List Int:=Bw d 32++[((eQ d 32 / 256 % 16:Nat):Int),((eQ d 32 / 16 % 16:Nat):Int),((eQ d 32 % 16:Nat):Int)]
theorem xD (d:List UInt8):(mO d).length=35:=by simp[mO,iP]
theorem On (d:List UInt8) (k:Nat) (hk:k < 35):∃ t:Nat,t≤15∧(mO d)[k]?=some (t:Int):=by
 unfold mO
 by_cases h:k < 32
 ·refine⟨Al d k,GK d k,?_⟩
  rw[List.getElem?_append_left (by rw[iP];exact h)]
  simp[Bw,h]
 ·rw[List.getElem?_append_right (by rw[iP];omega),iP]
  have:k=32∨k=33∨k=34:=by omega
  rcases this with rfl|rfl|rfl
  ·exact⟨eQ d 32 / 256 % 16,by omega,rfl⟩
  ·exact⟨eQ d 32 / 16 % 16,by omega,rfl⟩
  ·exact⟨eQ d 32 % 16,by omega,rfl⟩
def dC (d:List UInt8) (i:Nat):List SV:=d9 (Bw d i)++List.replicate (35 - i) (.int .i64 0)
theorem Oo {d:List UInt8} {i:Nat} (h:i≤35):(dC d i).length=35:=by simp[dC,gC,iP];omega
theorem Ub {d:List UInt8} {i:Nat} (h:i < 32):aF (dC d i) i [.int .i64 (Al d i:Int)]=dC d (i+1):=by
 unfold dC
 rw[show (35 - i)=(35 - (i+1))+1 by omega,List.replicate_succ]
 have:=fG (a:=d9 (Bw d i)) (b:=[.int .i64 0]) (c:=List.replicate (35 - (i+1)) (.int .i64 0)) (k:=i) (d:=[.int .i64 (Al d i:Int)]) (by simp[gC,iP]) rfl
 simp only[List.cons_append,List.nil_append] at this
 rw[this,← DX]
 simp[d9]
theorem Uc {d:List UInt8} {i:Nat} (h:i < 32):(dC d (i+1))[i]?=some (.int .i64 (Al d i:Int)):=by
 unfold dC
 rw[List.getElem?_append_left (by simp[gC,iP])]
 simp[d9,Bw]
theorem Rn {d:List UInt8} {i:Nat}:SV.flatL (dC d i)=true:=by
 unfold dC
 refine qF (uG _) ?_
 generalize 35 - i=k
 induction k with
 | zero=>rfl
 | succ k ih=>rw[List.replicate_succ];simp only[SV.flatL,SV.flat,Bool.true_and];exact ih
theorem Ud (η:Nat→Nat × Nat) (d:List UInt8) (i:Nat):SV.renL η (dC d i)=dC d i:=SV.flatL_ren η _ Rn
theorem XX {x:UInt8} {r:Nat} (hr:r < 2):Int.tmod (IntKind.i64.wrap ((x.toNat:Int).fdiv (2 ^ (min (4 - 4 * r) IntKind.u8.bits)))) 16=((x.toNat / (if r=0 then 16 else 1) % 16:Nat):Int):=by
 have hx:x.toNat < 256:=x.toNat_lt
 have:r=0∨r=1:=by omega
 rcases this with rfl|rfl
 ·have e:((x.toNat:Int).fdiv (2 ^ (min (4 - 4 * 0) IntKind.u8.bits)))=((x.toNat / 16:Nat):Int):=(Int.ofNat_fdiv _ 16).symm
  rw[e,aD (by omega) (by omega)]
  exact (Int.ofNat_tmod _ 16).symm
 ·have e:((x.toNat:Int).fdiv (2 ^ (min (4 - 4 * 1) IntKind.u8.bits)))=((x.toNat / 1:Nat):Int):=(Int.ofNat_fdiv _ 1).symm
  rw[e,aD (by omega) (by omega)]
  exact (Int.ofNat_tmod _ 16).symm
def dF (d:List UInt8) (x y z:Int):List SV:=d9 (Bw d 32)++[.int .i64 x,.int .i64 y,.int .i64 z]
theorem Zx (d:List UInt8):dC d 32=dF d 0 0 0:=rfl
theorem Ue (d:List UInt8) (x y z:Int):(dF d x y z).length=35:=by simp[dF,gC,iP]
theorem XY (d:List UInt8) (x y z v:Int):aF (dF d x y z) 34 [.int .i64 v]=dF d x y v:=by
 have:=fG (a:=d9 (Bw d 32)++[.int .i64 x,.int .i64 y]) (b:=[.int .i64 z]) (c:=[]) (k:=34) (d:=[.int .i64 v]) (by simp[gC,iP]) rfl
 simpa [dF] using this
theorem XZ (d:List UInt8) (x y z v:Int):aF (dF d x y z) 33 [.int .i64 v]=dF d x v z:=by
 have:=fG (a:=d9 (Bw d 32)++[.int .i64 x]) (b:=[.int .i64 y]) (c:=[.int .i64 z]) (k:=33) (d:=[.int .i64 v]) (by simp[gC,iP]) rfl
 simpa [dF] using this
theorem X3 (d:List UInt8) (x y z v:Int):aF (dF d x y z) 32 [.int .i64 v]=dF d v y z:=by
 have:=fG (a:=d9 (Bw d 32)) (b:=[.int .i64 x]) (c:=[.int .i64 y,.int .i64 z]) (k:=32) (d:=[.int .i64 v]) (by simp[gC,iP]) rfl
 simpa [dF] using this
theorem Uf (d:List UInt8):dF d ((eQ d 32 / 256 % 16:Nat):Int) ((eQ d 32 / 16 % 16:Nat):Int) ((eQ d 32 % 16:Nat):Int)=d9 (mO d):=by
 simp[dF,mO,d9]
theorem zP (n k:Nat):Int.tmod (n:Int) (k:Int)=((n % k:Nat):Int):=(Int.ofNat_tmod n k).symm
theorem BN (n k:Nat):Int.tdiv (n:Int) (k:Int)=((n / k:Nat):Int):=(Int.ofNat_tdiv n k).symm
theorem f77 (d:List UInt8) (hd:d.length=16):Fun Tryz.prog tS 126 [.agg (aB d)] [] 0 (.slc 0 0 1 35 (some 35)) [(0,⟨.own 157,d9 (mO d)⟩)] 1:=by
 refine aR none cF bI Wi (Nat.le_of_ble_eq_true rfl) (by decide) ?_
 conv in aJ _ _=>(reduce;simp only[aH,UInt8.reduceOfNat,Int.reduceOfNat,Int.reduceNegSucc])
 rw[aQ]
 have hl:(aB d).length=16:=by rw[aA,hd]
 simp (maxSteps:=1000000) only [reduceCtorEq,Nat.reduceEqDiff,Nat.reduceAdd,eq_self,gV,↓reduceIte,Opd.ev,Sx.get,put,bQ,fF,aU,SV.cells?,BB,↓PB]
 rw[aL]
 have rD:∀ η,SV.renL η (aB d)=aB d:=fun η=>aC η d
 have rC:∀ η i,SV.renL η (dC d i)=dC d i:=fun η i=>Ud η d i
 refine bF bI (σ:=Nat) (fun i=>[(7,.int .i64 (i:Int)),(4,.int .i64 (eQ d i:Int)),(3,.ptr 1 0),(1,.ptr 0 0)]) (fun i=>[(1,⟨.own 157,dC d i⟩),(0,⟨.own 24,aB d⟩)]) (fun _=>2)
  (fun i=>i≤32) (fun i=>32 - i) 0 ?_ (Nat.zero_le _) ?_
 ·exact⟨[(0,0),(1,0)],by simp only[rD,rC,dS,aK,aM,aG,bB,b7,rd,Nat.reduceAdd,Nat.reduceSub,Nat.reduceLT,Nat.reduceLeDiff,↓reduceIte,Kind.isOwn,exists_eq_left',ne_eq,implies_true,false_imp_iff,forall_const,forall_eq,BB] <;> rfl,by simp[eQ,dI,eX,bB,SV.ren,Nat.reduceAdd,Nat.reduceEqDiff,Nat.reduceLeDiff,↓reduceIte,BB]⟩
 ·intro i hi
  have hs:=CO d i
  have hdg:=GK d i
  have lC:=Oo (d:=d) (show i≤35 by omega)
  have lC':=Oo (d:=d) (show i+1≤35 by omega)
  by_cases Lj:i < 32
  ·obtain⟨x,hx⟩:∃ x,d[i / 2]?=some x:=⟨d[i / 2]'(by omega),by rw[List.getElem?_eq_getElem]⟩
   have gx:=fL hx
   have c1:(i:Int) < 32:=by omega
   have c2:(0:Int)≤(i:Int):=by omega
   have c3:(i:Int) < 35:=by omega
   have q1:Int.tdiv (i:Int) 2=((i / 2:Nat):Int):=BN i 2
   have q2:Int.tmod (i:Int) 2=((i % 2:Nat):Int):=zP i 2
   have q3:IntKind.i64.wrap ((i / 2:Nat):Int)=((i / 2:Nat):Int):=aD (by omega) (by omega)
   have q4:(0:Int)≤((i / 2:Nat):Int)∧((i / 2:Nat):Int) < 16:=by omega
   have v1:IntKind.i64.wrap (4 * ((i % 2:Nat):Int))=((4 * (i % 2):Nat):Int):=by rw[aD (by omega) (by omega)];omega
   have v2:IntKind.i64.wrap (4 - ((4 * (i % 2):Nat):Int))=((4 - 4 * (i % 2):Nat):Int):=by rw[aD (by omega) (by omega)];omega
   have v3:(0:Int)≤((4 - 4 * (i % 2):Nat):Int):=by omega
   have v4:IntKind.i64.wrap ((i:Int)+1)=((i+1:Nat):Int):=by rw[aD (by omega) (by omega)];omega
   have ev:Int.tmod (IntKind.i64.wrap ((x.toNat:Int).fdiv (2 ^ (min (4 - 4 * (i % 2)) IntKind.u8.bits)))) 16=(Al d i:Int):=by
    rw[XX (by omega)]
    unfold Al
    rw[List.getD_eq_getElem?_getD,hx];rfl
   have v5:IntKind.i64.wrap (15 - (Al d i:Int))=((15 - Al d i:Nat):Int):=by rw[aD (by omega) (by omega)];omega
   have v6:IntKind.i64.wrap ((eQ d i:Int)+((15 - Al d i:Nat):Int))=(eQ d (i+1):Int):=by rw[aD (by omega) (by omega)];simp only[eQ];omega
   have op:=Ub (d:=d) Lj
   have og:=Uc (d:=d) Lj
   simp (maxSteps:=1000000) only [c1,c2,c3,q1,q2,q3,q4.1,q4.2,gx,v1,v2,v3,v4,ev,v5,v6,lC,op,og,reduceCtorEq,Nat.reduceEqDiff,Nat.reduceLeDiff,Int.reduceNe,eq_self,↓reduceIte,↓cL,Opd.ev,Sx.get,put,bQ,fF,aU,rd,bC,SV.cells?,SV.one,BB,↓PB]
   exact⟨by omega,i+1,⟨[(0,0),(1,0)],by simp only[rD,rC,dS,aK,aM,aG,bB,b7,rd,Nat.reduceAdd,Nat.reduceSub,Nat.reduceLT,Nat.reduceLeDiff,↓reduceIte,Kind.isOwn,exists_eq_left',ne_eq,implies_true,false_imp_iff,forall_const,forall_eq,BB],by simp[dI,eX,bB,SV.ren,Nat.reduceAdd,Nat.reduceEqDiff,Nat.reduceLeDiff,↓reduceIte,BB]⟩,by omega,by omega⟩
  ·obtain rfl:i=32:=by omega
   rw[Zx]
   simp (maxSteps:=1000000) only [Nat.reduceEqDiff,Int.reduceLT,eq_self,↓reduceIte,↓cL,Opd.ev,Sx.get,put,bQ,fF,aU,BB,↓PB]
   rw[aL]
   refine a8 bI (aN _ _) 4 ?_
   have w1:Int.tmod (eQ d 32:Int) 16=((eQ d 32 % 16:Nat):Int):=zP (eQ d 32) 16
   have w2:Int.tdiv (eQ d 32:Int) 16=((eQ d 32 / 16:Nat):Int):=BN (eQ d 32) 16
   have w3:Int.tmod ((eQ d 32 / 16:Nat):Int) 16=((eQ d 32 / 16 % 16:Nat):Int):=zP (eQ d 32 / 16) 16
   have w4:Int.tdiv ((eQ d 32 / 16:Nat):Int) 16=((eQ d 32 / 16 / 16:Nat):Int):=BN (eQ d 32 / 16) 16
   have w5:Int.tmod ((eQ d 32 / 16 / 16:Nat):Int) 16=((eQ d 32 / 16 / 16 % 16:Nat):Int):=zP (eQ d 32 / 16 / 16) 16
   have w6:IntKind.i64.wrap ((eQ d 32 / 16:Nat):Int)=((eQ d 32 / 16:Nat):Int):=aD (by omega) (by omega)
   have w7:IntKind.i64.wrap ((eQ d 32 / 16 / 16:Nat):Int)=((eQ d 32 / 16 / 16:Nat):Int):=aD (by omega) (by omega)
   simp (maxSteps:=1000000) only [Ue,XY,XZ,X3,w1,w2,w3,w4,w5,w6,w7,Int.reduceGE,reduceCtorEq,Nat.reduceEqDiff,Nat.reduceAdd,Nat.reduceLeDiff,Int.reduceToNat,Int.reduceLT,Int.reduceLE,Int.reduceSub,Int.reduceNeg,Int.reduceNe,eq_self,↓reduceIte,↓cL,↓dY,Opd.ev,Sx.get,put,bQ,fF,aU,rd,bC,SV.cells?,SV.one,dX,bB,SV.ren,BB,↓PB]
   rw[show eQ d 32 / 16 / 16=eQ d 32 / 256 by omega,Uf]
   exact⟨[(1,0)],by simp[dS,aK,aM,aG,bB,b7,rd,↓reduceIte,Kind.isOwn,exists_eq_left',ne_eq,implies_true,forall_const,BB],by simp[BB]⟩
theorem f100 (d:List UInt8) (hd:d.length=16):Fun Tryz.prog tS 132 [.agg (aB d)] [] 0 (.slc 0 0 1 35 none) [(0,⟨.own 3,d9 (mO d)⟩)] 1:=by
 refine aR none cF bI Wm (Nat.le_of_ble_eq_true rfl) (by decide) ?_
 conv in aJ _ _=>(reduce;simp only[aH,UInt8.reduceOfNat,Int.reduceOfNat,Int.reduceNegSucc])
 rw[aQ]
 have hl:(aB d).length=16:=by rw[aA,hd]
 simp (maxSteps:=1000000) only [reduceCtorEq,Nat.reduceEqDiff,eq_self,gV,↓reduceIte,Opd.ev,Sx.get,put,bQ,fF,aU,SV.cells?,BB,↓PB]
 rw[aL]
 have rD:∀ η,SV.renL η (aB d)=aB d:=fun η=>aC η d
 refine bF bI (σ:=Nat) (fun i=>[(5,.int .i64 (i:Int)),(4,.int .i64 (eQ d (2 * i):Int)),(3,AN 1 1 (2 * i)),(1,.ptr 0 0)]) (fun i=>v7 1 3 (d9 (Bw d (2 * i))) [(0,⟨.own 24,aB d⟩)] (2 * i)) (fun i=>s9 1 (2 * i))
  (fun i=>i≤16) (fun i=>16 - i) 0 ?_ (Nat.zero_le _) ?_
 ·exact⟨[(0,0)],by simp only[Nat.mul_zero,rD,dS,aK,aM,aG,bB,b7,rd,Nat.reduceSub,Nat.reduceLT,Nat.reduceLeDiff,↓reduceIte,Kind.isOwn,exists_eq_left',ne_eq,implies_true,false_imp_iff,forall_const,BB] <;> exact⟨rfl,rfl⟩,by simp[eQ,dI,eX,bB,SV.ren,Nat.reduceEqDiff,↓reduceIte,BB]⟩
 ·intro i hi
  have hs:=CO d (2 * i)
  have hdg:=GK d (2 * i)
  have hdg1:=GK d (2 * i+1)
  by_cases uT:i < 16
  ·obtain⟨x,hx⟩:∃ x,d[i]?=some x:=⟨d[i]'(by omega),by rw[List.getElem?_eq_getElem]⟩
   have gx:=fL hx
   have hxl:x.toNat < 256:=x.toNat_lt
   have c1:(i:Int) < 16:=by omega
   have c2:(0:Int)≤(i:Int):=by omega
   have v4:IntKind.i64.wrap ((i:Int)+1)=((i+1:Nat):Int):=by rw[aD (by omega) (by omega)];omega
   have x1:IntKind.i64.wrap (x.toNat:Int)=(x.toNat:Int):=aD (by omega) (by omega)
   have x2:Int.tdiv (x.toNat:Int) 16=(Al d (2 * i):Int):=by
    rw[show Int.tdiv (x.toNat:Int) 16=((x.toNat / 16:Nat):Int) from BN x.toNat 16]
    unfold Al
    rw[show 2 * i / 2=i by omega,List.getD_eq_getElem?_getD,hx,if_pos (by omega)]
    simp only[Option.getD_some]
    omega
   have x3:IntKind.i64.wrap (Al d (2 * i):Int)=(Al d (2 * i):Int):=aD (by omega) (by omega)
   have x4:Int.tmod (x.toNat:Int) 16=(Al d (2 * i+1):Int):=by
    rw[show Int.tmod (x.toNat:Int) 16=((x.toNat % 16:Nat):Int) from zP x.toNat 16]
    unfold Al
    rw[show (2 * i+1) / 2=i by omega,List.getD_eq_getElem?_getD,hx,if_neg (by omega)]
    simp only[Option.getD_some]
    omega
   have y1:IntKind.i64.wrap ((eQ d (2 * i):Int)+30)=((eQ d (2 * i)+30:Nat):Int):=by rw[aD (by omega) (by omega)];omega
   have y2:IntKind.i64.wrap (((eQ d (2 * i)+30:Nat):Int) - (Al d (2 * i):Int))=((eQ d (2 * i)+30 - Al d (2 * i):Nat):Int):=by rw[aD (by omega) (by omega)];omega
   have y3:IntKind.i64.wrap (((eQ d (2 * i)+30 - Al d (2 * i):Nat):Int) - (Al d (2 * i+1):Int))=(eQ d (2 * (i+1)):Int):=by
    rw[aD (by omega) (by omega),show 2 * (i+1)=2 * i+1+1 by omega];simp only[eQ];omega
   have ap:d9 (Bw d (2 * i))++[.int .i64 (Al d (2 * i):Int),.int .i64 (Al d (2 * i+1):Int)]=d9 (Bw d (2 * (i+1))):=by
    rw[show 2 * (i+1)=2 * i+1+1 by omega,← DX,← DX]
    simp[d9]
   have tk:List.take (2 * i) (d9 (Bw d (2 * i)))=d9 (Bw d (2 * i)):=List.take_of_length_le (by rw[gC,iP];omega)
   have ln:(Bw d (2 * i)).length=2 * i:=iP d _
   rcases Nat.eq_zero_or_pos i with h0|h0
   ·subst h0
    have ap0:[SV.int .i64 (Al d (2 * 0):Int),SV.int .i64 (Al d (2 * 0+1):Int)]=d9 (Bw d (2 * (0+1))):=ap
    rw[lJ rfl,jU rfl,lM rfl]
    simp (maxSteps:=1000000) only [gx,x1,x2,x3,x4,y1,y2,y3,ap0,Nat.reduceEqDiff,Nat.reduceAdd,Nat.reduceMul,Nat.reduceLeDiff,Int.reduceToNat,Int.reduceLT,Int.reduceLE,Int.reduceAdd,Int.reduceNeg,Int.reduceNe,eq_self,↓reduceIte,↓cL,↓eG,Opd.ev,Sx.get,put,bQ,fF,aU,rd,aF,SV.cells?,SV.one,BB,↓PB]
    rw[List.take_of_length_le (by rw[gC,iP];omega:(d9 (Bw d 2)).length≤2)]
    exact⟨by rw[iP];omega,by omega,by omega,1,⟨[(0,0),(2,0)],by simp[rD,dS,aK,aM,aG,bB,b7,rd,Nat.reduceAdd,Nat.reduceLeDiff,↓reduceIte,Kind.isOwn,exists_eq_left',ne_eq,implies_true,forall_const,reduceCtorEq,forall_eq,BB],by simp[dI,eX,bB,SV.ren,Nat.reduceAdd,Nat.reduceEqDiff,Nat.reduceLeDiff,↓reduceIte,BB]⟩,by omega,by omega⟩
   ·have hp:0 < 2 * i:=by omega
    rw[eL hp,eE hp,eO hp]
    simp (maxSteps:=1000000) only [c1,c2,gx,v4,x1,x2,x3,x4,y1,y2,y3,ap,tk,ln,reduceCtorEq,Nat.reduceEqDiff,Nat.reduceAdd,Nat.reduceLeDiff,Int.reduceNe,eq_self,↓reduceIte,↓cL,↓eG,Opd.ev,Sx.get,put,bQ,fF,aU,rd,rm,aF,SV.cells?,SV.one,BB,↓PB]
    have hp2:0 < 2 * (i+1):=by omega
    refine⟨by omega,by omega,i+1,?_,by omega,by omega⟩
    rw[eL hp2,eE hp2,eO hp2]
    exact⟨[(0,0),(3,0)],by simp[rD,dS,aK,aM,aG,bB,b7,rd,Nat.reduceAdd,Nat.reduceLeDiff,↓reduceIte,Kind.isOwn,exists_eq_left',ne_eq,implies_true,forall_const,reduceCtorEq,forall_eq,BB],by simp[Nat.mul_add,dI,eX,bB,SV.ren,Nat.reduceAdd,Nat.reduceEqDiff,Nat.reduceLeDiff,↓reduceIte,BB]⟩
  ·obtain rfl:i=16:=by omega
   have hs:=CO d 32
   have w1:Int.tmod (eQ d 32:Int) 16=((eQ d 32 % 16:Nat):Int):=zP (eQ d 32) 16
   have w2:Int.tdiv (eQ d 32:Int) 16=((eQ d 32 / 16:Nat):Int):=BN (eQ d 32) 16
   have w3:Int.tmod ((eQ d 32 / 16:Nat):Int) 16=((eQ d 32 / 16 % 16:Nat):Int):=zP (eQ d 32 / 16) 16
   have w6:IntKind.i64.wrap ((eQ d 32 / 16:Nat):Int)=((eQ d 32 / 16:Nat):Int):=aD (by omega) (by omega)
   have w4:Int.tdiv (eQ d 32:Int) 256=((eQ d 32 / 256 % 16:Nat):Int):=by
    rw[show Int.tdiv (eQ d 32:Int) 256=((eQ d 32 / 256:Nat):Int) from BN (eQ d 32) 256];omega
   have w5:IntKind.i64.wrap ((eQ d 32 / 256 % 16:Nat):Int)=((eQ d 32 / 256 % 16:Nat):Int):=aD (by omega) (by omega)
   have tk:List.take 32 (d9 (Bw d 32))=d9 (Bw d 32):=List.take_of_length_le (by rw[gC,iP];omega)
   have ap:d9 (Bw d 32)++[.int .i64 ((eQ d 32 / 256 % 16:Nat):Int),.int .i64 ((eQ d 32 / 16 % 16:Nat):Int),.int .i64 ((eQ d 32 % 16:Nat):Int)]=d9 (mO d):=by simp[mO,d9]
   have hp:0 < 2 * 16:=by decide
   rw[eL hp,eE hp,eO hp]
   simp (maxSteps:=1000000) only [w1,w2,w3,w4,w5,w6,ap,tk,reduceCtorEq,Nat.reduceEqDiff,Nat.reduceAdd,Nat.reduceMul,Nat.reduceLeDiff,Int.reduceLT,Int.reduceNe,eq_self,↓reduceIte,↓cL,↓eG,↓dY,Opd.ev,Sx.get,put,bQ,fF,aU,rd,rm,aF,SV.cells?,SV.one,dX,bB,SV.ren,BB,↓PB]
   exact⟨by omega,by omega,by rw[iP];omega,[(3,0)],by simp[dS,aK,aM,aG,bB,b7,rd,↓reduceIte,Kind.isOwn,exists_eq_left',ne_eq,implies_true,forall_const,BB],by simp[BB]⟩
def IK:GS
 | [.agg cells],[]=>match rQ cells with
  | some d=>if d.length=16 then some (.slc 0 0 1 35 (some 35),[(0,⟨.own 157,d9 (mO d)⟩)],1) else none
  | none=>none
 | _,_=>none
theorem Oq:dQ Tryz.prog tS 126 IK:=by
 intro a0 m0 r m1 n1 h
 unfold IK at h
 split at h
 ·split at h
  ·rename_i d hd
   split at h
   ·rename_i hc
    cases h
    rw[b8 hd]
    exact⟨f77 d hc,by simp[dA]⟩
   ·cases h
  ·cases h
 ·cases h
def BO:GS
 | [.agg cells],[]=>match rQ cells with
  | some d=>if d.length=16 then some (.slc 0 0 1 35 none,[(0,⟨.own 3,d9 (mO d)⟩)],1) else none
  | none=>none
 | _,_=>none
theorem FG:dQ Tryz.prog tS 132 BO:=by
 intro a0 m0 r m1 n1 h
 unfold BO at h
 split at h
 ·split at h
  ·rename_i d hd
   split at h
   ·rename_i hc
    cases h
    rw[b8 hd]
    exact⟨f100 d hc,by simp[dA]⟩
   ·cases h
  ·cases h
 ·cases h
theorem GL:∀ x∈tH,x∈aO:=by
 intro x hx
 simp only[tH,List.mem_singleton] at hx
 subst hx
 simp[aO]
def iV (k:Nat):Nat→Nat→List UInt8→List UInt8
 | 0,_,v=>v
 | c+1,h,v=>iV k c (h+1) (dE 4 [aP k,aP h,v])
theorem xE (k:Nat):∀ (c h:Nat) (v:List UInt8),v.length=16→(iV k c h v).length=16
 | 0,_,_,hv=>hv
 | c+1,h,v,_=>xE k c (h+1) _ (bK _ _)
theorem Ot {tag:Int} {a b c:List UInt8} (ha:a.length≤2 ^ 30) (hb:b.length≤2 ^ 30) (hc:c.length≤2 ^ 30):Kg tag [a,b,c]:=by
 refine⟨fun p hp=>?_,?_,by simp⟩
 ·simp only[List.mem_cons,List.not_mem_nil,or_false] at hp
  rcases hp with rfl|rfl|rfl <;> omega
 ·have h1:=aS (a.length:Int)
  have h2:=aS (b.length:Int)
  have h3:=aS (c.length:Int)
  simp[dV,bU]
  omega
theorem Kp {tag:Int} {a b c:List UInt8} (ha:a.length≤2 ^ 30) (hb:b.length≤2 ^ 30) (hc:c.length≤2 ^ 30) :
  T5 [.int .i64 tag,.slc 0 0 1 3 none] [(0,⟨.view,[.str a,.str b,.str c]⟩)]=some (.agg (aB (dE tag [a,b,c])),[],1):=by
 unfold T5
 simp only
 rw[show [SV.str a,SV.str b,SV.str c]=m9 [a,b,c] from rfl,mN]
 simp only[jO,List.length_cons,List.length_nil]
 rw[if_pos ⟨trivial,Ot ha hb hc⟩]
theorem DY {tag:Int} {a b c:List UInt8} (ha:a.length≤2 ^ 30) (hb:b.length≤2 ^ 30) (hc:c.length≤2 ^ 30) :
  Bv [.int .i64 tag,.slc 0 0 1 3 none] [(0,⟨.view,[.str a,.str b,.str c]⟩)]=some (.agg (aB (dE tag [a,b,c])),[],1):=by
 unfold Bv
 simp only
 rw[show [SV.str a,SV.str b,SV.str c]=m9 [a,b,c] from rfl,mN]
 simp only[jO,List.length_cons,List.length_nil]
 rw[if_pos ⟨trivial,Ot ha hb hc⟩]
theorem f93 (n k:Int) (h1:0≤n) (h2:n≤k):Fun Tryz.prog tS 157 [.int .i64 n,.int .i64 k] [] 0 (.bool true) [] 0:=by
 refine bT none cF bI XD (Nat.le_of_ble_eq_true rfl) (fun η=>rfl) ?_
 conv in aJ _ _=>(reduce;simp only[aH,seval])
 rw[aQ]
 have c1:n ≥ 0:=h1
 simp only[c1,h2,BC,↓PC,seval]
def Ou:List SV→Option SV
 | [.int .i64 n,.int .i64 k]=>if 0≤n∧n≤k then some (.bool true) else none
 | _=>none
theorem DZ {n k:Int} (h1:0≤n) (h2:n≤k):Ou [.int .i64 n,.int .i64 k]=some (.bool true):=if_pos ⟨h1,h2⟩
def IL:Tab:=⟨[(157,Ou)],[]⟩
theorem Ov:TabX Tryz.prog tS IL:=by
 refine⟨fun x h args r hr=>?_,fun x h=>by simp[IL] at h⟩
 simp only[IL,List.mem_singleton] at h
 subst h
 simp only at hr
 unfold Ou at hr
 split at hr
 ·split at hr
  ·rename_i hc
   cases hr
   exact⟨f93 _ _ hc.1 hc.2,fun η=>by simp only[SV.renL,SV.ren],fun η=>by simp only[SV.renL,SV.ren]⟩
  ·cases hr
 ·cases hr
def FH:List (FuncId × GS):=[(45,EQ),(131,T5)]
theorem IM:∀ x∈FH,dQ Tryz.prog aO x.1 x.2:=by
 intro x hx
 simp only[FH,List.mem_cons,List.not_mem_nil,or_false] at hx
 rcases hx with rfl|rfl
 ·exact Ke
 ·exact O8.more GL
def Zy:bG:=dR FH (gT IL)
theorem Ow:∀ f a m n K,Zy f a m n K→aY Tryz.prog aO f a m n K:=bA IM (cN Ov)
theorem f80 (k h:Nat) (v:List UInt8) (hk:k≤34) (hh:h≤15) (hv:v.length=16) :
  Fun Tryz.prog aO 129 [.int .i64 (k:Int),.int .i64 (h:Int),.int .i64 15,.agg (aB v)] [] 0 (.agg (aB (iV k (15 - h) h v))) [] 0:=by
 refine bT none Zy Ow Wk (Nat.le_of_ble_eq_true rfl) (fun η=>by simp only[SV.ren,aC]) ?_
 conv in aJ _ _=>(reduce;simp only[aH,seval])
 rw[aQ]
 have hl:(aB v).length=16:=by rw[aA,hv]
 have w1:=DZ (n:=(k:Int)) (k:=34) (by omega) (by omega)
 have w2:=DZ (n:=(h:Int)) (k:=15) (by omega) (by omega)
 have w3:=DZ (n:=15) (k:=15) (by omega) (by omega)
 have au:=dD (aP (k:Int))
 have mb:=bR (aP (k:Int))
 have tb:=a9 (aP (k:Int))
 simp only[Zy,FH,IL,EQ,↓w1,↓w2,↓w3,au,mb,tb,BC,↓PC,seval]
 rw[aL]
 have rz:∀ η,SV.renL η wZ=wZ:=fun η=>SV.flatL_ren η wZ rfl
 have rB:∀ η b,SV.renL η (aB b)=aB b:=fun η b=>aC η b
 refine bF Ow (σ:=Nat × List UInt8) (fun x=>[(10,.int .i64 (x.1:Int)),(9,.str (aP (k:Int))),(8,.ptr 1 0),(7,.ptr 0 0),(2,.int .i64 15)]) (fun x=>[(1,⟨.own 24,wZ⟩),(0,⟨.own 24,aB x.2⟩)]) (fun _=>2)
  (fun x=>x.1≤15∧x.2.length=16∧iV k (15 - x.1) x.1 x.2=iV k (15 - h) h v) (fun x=>15 - x.1) (h,v) ?_ ⟨hh,hv,rfl⟩ ?_
 ·exact⟨[(0,0),(1,0)],by simp only[rB,rz,BC,seval] <;> rfl,by simp[BC,seval]⟩
 ·rintro⟨j,u⟩ ⟨hj,hu,he⟩
  simp only at hj hu he ⊢
  have hlu:(aB u).length=16:=by rw[aA,hu]
  by_cases hj2:j < 15
  ·have c1:(j:Int) < 15:=by omega
   have v4:IntKind.i64.wrap ((j:Int)+1)=((j+1:Nat):Int):=by rw[aD (by omega) (by omega)];omega
   have e1:=aS (k:Int)
   have e2:=aS (j:Int)
   have go:=Kp (tag:=4) (a:=aP (k:Int)) (b:=aP (j:Int)) (c:=u) (by omega) (by omega) (by omega)
   have au1:=dD (aP (j:Int))
   have mb1:=bR (aP (j:Int))
   have tb1:=a9 (aP (j:Int))
   have au2:=dD u
   have mb2:=bR u
   have tb2:List.take 16 (aB u)=aB u:=List.take_of_length_le (by omega)
   rw[show 15 - j=(15 - (j+1))+1 by omega] at he
   simp only[iV] at he
   have hO:=bK 4 [aP (k:Int),aP (j:Int),u]
   generalize dE 4 [aP (k:Int),aP (j:Int),u]=O at *
   have lO:(aB O).length=16:=by rw[aA,hO]
   have dU:List.drop 16 (aB u)=[]:=List.drop_of_length_le (by omega)
   simp only[EQ,↓go,hlu,c1,v4,au1,mb1,tb1,au2,mb2,tb2,lO,dU,oZ,bC,aF,BC,↓PC,seval]
   exact⟨(j+1,O),⟨[(0,0),(1,0)],by simp only[rB,rz,BC,seval],by simp[BC,seval]⟩,⟨by simp only;omega,hO,he⟩,by simp only;omega⟩
  ·obtain rfl:j=15:=by omega
   have tb2:List.take 16 (aB u)=aB u:=List.take_of_length_le (by omega)
   simp only[hlu,tb2,bC,BC,↓PC,seval]
   have e0:u=iV k (15 - h) h v:=he
   rw[← e0,fN (show (aB u).length=wZ.length by rw[hlu];rfl)]
   exact⟨by decide,by omega,tb2⟩
def ES:List SV→Option SV
 | [.int .i64 (.ofNat k),.int .i64 (.ofNat h),.int .i64 15,.agg cells]=>match rQ cells with
  | some v=>if k≤34∧h≤15∧v.length=16 then some (.agg (aB (iV k (15 - h) h v))) else none
  | none=>none
 | _=>none
theorem Kq {k h:Nat} {v:List UInt8} (hk:k≤34) (hh:h≤15) (hv:v.length=16):ES [.int .i64 (k:Int),.int .i64 (h:Int),.int .i64 15,.agg (aB v)]=some (.agg (aB (iV k (15 - h) h v))):=by
 show ES [.int .i64 (.ofNat k),.int .i64 (.ofNat h),.int .i64 15,.agg (aB v)]=_
 unfold ES
 simp only[aT]
 rw[if_pos ⟨hk,hh,hv⟩]
theorem Kr {f:FuncId} (H:∀ (k h:Nat) (v:List UInt8),k≤34→h≤15→v.length=16→Fun Tryz.prog aO f [.int .i64 (k:Int),.int .i64 (h:Int),.int .i64 15,.agg (aB v)] [] 0 (.agg (aB (iV k (15 - h) h v))) [] 0):TabX Tryz.prog aO ⟨[(f,ES)],[]⟩:=by
 refine⟨fun x h args r hr=>?_,fun x h=>by simp at h⟩
 simp only[List.mem_singleton] at h
 subst h
 simp only at hr
 unfold ES at hr
 split at hr
 ·split at hr
  ·rename_i v hv
   split at hr
   ·rename_i hc
    cases hr
    rw[b8 hv]
    exact⟨H _ _ v hc.1 hc.2.1 hc.2.2,fun η=>by simp only[SV.renL,SV.ren,aC],fun η=>by simp only[SV.renL,SV.ren,aC]⟩
   ·cases hr
  ·cases hr
 ·cases hr
theorem Ug:TabX Tryz.prog aO ⟨[(129,ES)],[]⟩:=Kr f80
theorem mB {n:Int} (h:kJ n):uL [.int .i64 n] []=some (.slc 0 0 1 (aP n).length none,[(0,⟨.own 5,aB (aP n)⟩)],1):=by
 rw[qW h];rfl
def FI:List (FuncId × GS):=[(49,uL),(47,vV),(76,Bv)]
theorem Ox:∀ x∈FI,dQ Tryz.prog aO x.1 x.2:=by
 intro x hx
 simp only[FI,List.mem_cons,List.not_mem_nil,or_false] at hx
 rcases hx with rfl|rfl|rfl
 ·exact uM
 ·exact xC
 ·exact CN
def Uh:bG:=dR FI cF
theorem D3:∀ f a m n K,Uh f a m n K→aY Tryz.prog aO f a m n K:=bA Ox bI
theorem f101 (k h:Nat) (v:List UInt8) (hk:k≤34) (hh:h≤15) (hv:v.length=16) :
  Fun Tryz.prog aO 133 [.int .i64 (k:Int),.int .i64 (h:Int),.int .i64 15,.agg (aB v)] [] 0 (.agg (aB (iV k (15 - h) h v))) [] 0:=by
 refine bT none Uh D3 T0 (Nat.le_of_ble_eq_true rfl) (fun η=>by simp only[SV.ren,aC]) ?_
 conv in aJ _ _=>(reduce;simp only[aH,seval])
 rw[aQ]
 have hl:(aB v).length=16:=by rw[aA,hv]
 have n1:¬ (k:Int) < 0:=by omega
 have n2:¬ (k:Int) > 34:=by omega
 have n3:¬ (h:Int) < 0:=by omega
 have n4:¬ (h:Int) > 15:=by omega
 simp only[Uh,FI,n1,n2,n3,n4,BC,↓PC,seval]
 rw[aL]
 have rz:∀ η,SV.renL η wZ=wZ:=fun η=>SV.flatL_ren η wZ rfl
 have rB:∀ η b,SV.renL η (aB b)=aB b:=fun η b=>aC η b
 refine bF D3 (σ:=Nat × List UInt8) (fun x=>[(9,.int .i64 (x.1:Int)),(8,.ptr 1 0),(7,.ptr 0 0),(2,.int .i64 15),(0,.int .i64 (k:Int))]) (fun x=>[(1,⟨.own 24,wZ⟩),(0,⟨.own 24,aB x.2⟩)]) (fun _=>2)
  (fun x=>x.1≤15∧x.2.length=16∧iV k (15 - x.1) x.1 x.2=iV k (15 - h) h v) (fun x=>15 - x.1) (h,v) ?_ ⟨hh,hv,rfl⟩ ?_
 ·exact⟨[(0,0),(1,0)],by simp only[rB,rz,BC,seval] <;> rfl,by simp[BC,seval]⟩
 ·rintro⟨j,u⟩ ⟨hj,hu,he⟩
  simp only at hj hu he ⊢
  have hlu:(aB u).length=16:=by rw[aA,hu]
  by_cases hj2:j < 15
  ·have c1:(j:Int) < 15:=by omega
   have v4:IntKind.i64.wrap ((j:Int)+1)=((j+1:Nat):Int):=by rw[aD (by omega) (by omega)];omega
   have e1:=aS (k:Int)
   have e2:=aS (j:Int)
   have go:=DY (tag:=4) (a:=aP (k:Int)) (b:=aP (j:Int)) (c:=u) (by omega) (by omega) (by omega)
   have gi1:=mB (n:=(k:Int)) ⟨by omega,by omega⟩
   have gi2:=mB (n:=(j:Int)) ⟨by omega,by omega⟩
   have au0:=dD (aP (k:Int))
   have ZJ:=bR (aP (k:Int))
   have tb0:=a9 (aP (k:Int))
   have au1:=dD (aP (j:Int))
   have mb1:=bR (aP (j:Int))
   have tb1:=a9 (aP (j:Int))
   have tb2:List.take 16 (aB u)=aB u:=List.take_of_length_le (by omega)
   rw[show 15 - j=(15 - (j+1))+1 by omega] at he
   simp only[iV] at he
   have hO:=bK 4 [aP (k:Int),aP (j:Int),u]
   generalize dE 4 [aP (k:Int),aP (j:Int),u]=O at *
   have lO:(aB O).length=16:=by rw[aA,hO]
   have dU:List.drop 16 (aB u)=[]:=List.drop_of_length_le (by omega)
   have fb:=aX u
   simp only[vV,↓gi1,↓gi2,aT,↓go,hlu,hu,fb,c1,v4,au0,ZJ,tb0,au1,mb1,tb1,tb2,lO,dU,oZ,bC,aF,BC,↓PC,seval]
   exact⟨(j+1,O),⟨[(0,0),(1,0)],by simp only[rB,rz,BC,seval],by simp[BC,seval]⟩,⟨by simp only;omega,hO,he⟩,by simp only;omega⟩
  ·obtain rfl:j=15:=by omega
   have tb2:List.take 16 (aB u)=aB u:=List.take_of_length_le (by omega)
   simp only[hlu,tb2,bC,BC,↓PC,seval]
   have e0:u=iV k (15 - h) h v:=he
   rw[← e0,fN (show (aB u).length=wZ.length by rw[hlu];rfl)]
   exact⟨by decide,by omega,tb2⟩
theorem Ro:TabX Tryz.prog aO ⟨[(133,ES)],[]⟩:=Kr f101
theorem X4:Fun Tryz.prog tS 168 [.ptr 0 0] [(0,⟨.own 160,[.val (.pointer none),.val (.slice none 0 0)]⟩)] 1 (.tup []) [(0,⟨.own 160,[.ptr 0 0,.val (.slice none 0 0)]⟩)] 1:=by
 refine aR none cF bI T4 (Nat.le_of_ble_eq_true rfl) (by decide) ?_
 conv in aJ _ _=>(reduce;simp only[aH,UInt8.reduceOfNat,Int.reduceOfNat,Int.reduceNegSucc])
 rw[aQ]
 simp (maxSteps:=1000000) only [reduceCtorEq,Nat.reduceEqDiff,Nat.reduceAdd,Nat.reduceLeDiff,↓reduceIte,bC,aF,BC,↓PC]
 exact⟨[(0,0)],by simp[↓reduceIte,BC]⟩
theorem X5 (b:List UInt8) (k:Nat):Fun Tryz.prog tS 168 [.ptr 0 0] [(0,⟨.own 160,[.ptr 0 0,.slc 1 0 1 k none]⟩),(1,⟨.own 5,aB b⟩)] 2 (.tup []) [(0,⟨.own 160,[.ptr 0 0,.slc 1 0 1 k none]⟩),(1,⟨.own 5,aB b⟩)] 2:=by
 refine aR none cF bI T4 (Nat.le_of_ble_eq_true rfl) (by decide) ?_
 conv in aJ _ _=>(reduce;simp only[aH,UInt8.reduceOfNat,Int.reduceOfNat,Int.reduceNegSucc])
 rw[aQ]
 simp (maxSteps:=1000000) only [reduceCtorEq,Nat.reduceEqDiff,↓reduceIte,BC,↓PC]
 exact⟨[(0,0),(1,0)],by simp[Nat.reduceAdd,Nat.reduceLeDiff,↓reduceIte,BC]⟩
theorem f92 (b:List UInt8) (h0:0 < b.length) (hb:b.length≤2 ^ 40):Fun Tryz.prog tS 156 [.ptr 0 0] [(0,⟨.own 160,[.ptr 0 0,.slc 1 0 1 b.length none]⟩),(1,⟨.own 5,aB b⟩)] 2 (.str b) [] 2:=by
 refine aR none cF bI XC (Nat.le_of_ble_eq_true rfl) (by decide) ?_
 conv in aJ _ _=>(reduce;simp only[aH,UInt8.reduceOfNat,Int.reduceOfNat,Int.reduceNegSucc])
 rw[aQ]
 have hl:=aA b
 have tb:=a9 b
 have i0:(0:Int) < (b.length:Int):=by omega
 have i1:(b.length:Int)≤9223372036854775807:=by omega
 have i2:1≤b.length:=h0
 have ab:(aB b).all mH=true:=by simp[aB,List.all_eq_true,B7]
 have mb:=bR b
 simp (maxSteps:=1000000) only [hl,tb,i0,i1,i2,ab,mb,reduceCtorEq,Nat.reduceEqDiff,↓reduceIte,oZ,bC,BC,↓PC]
 exact⟨[(0,0),(1,0)],rfl,by simp[aK,aM,aG,b7,BB]⟩
theorem X6 (p:List UInt8) (hp:p.length≤2 ^ 38) (cap:Option Nat):Fun Tryz.prog tS 155 [.ptr 0 0,.slc 1 0 1 p.length cap] [(0,⟨.own 160,[.val (.pointer none),.val (.slice none 0 0)]⟩),(1,⟨.view,aB p⟩)] 2
  (.tup [.int .i64 (p.length:Int),.val .nilIface]) [(0,⟨.own 160,[.ptr 0 0,.slc 2 0 1 p.length none]⟩),(2,⟨.own 5,aB p⟩)] 3:=by
 refine aR none (iB 168 (aY Tryz.prog tS) cF) (eZ bI) T2 (Nat.le_of_ble_eq_true rfl) (by decide) ?_
 conv in aJ _ _=>(reduce;simp only[aH,UInt8.reduceOfNat,Int.reduceOfNat,Int.reduceNegSucc])
 rw[aQ]
 simp (maxSteps:=1000000) only [reduceCtorEq,Nat.reduceEqDiff,↓reduceIte,BC,↓PC]
 refine⟨[(0,0)],_,_,_,_,1,X4,rfl,⟨⟨_,rfl,rfl,rfl,rfl⟩,trivial⟩,⟨by simp,trivial⟩,⟨by decide,trivial⟩,by simp,⟨fun _=>rfl,trivial⟩,?_⟩
 have tp:=a9 p
 have hl:=aA p
 simp (maxSteps:=1000000) only [tp,hl,reduceCtorEq,Nat.reduceEqDiff,Nat.reduceAdd,Nat.reduceSub,↓reduceIte,bC,aF,BC,↓PC]
 exact⟨by omega,by omega,[(0,0),(1,0),(2,0)],rfl,by simp[aK,aM,aG,bB,b7,rd,SV.ren,SV.renL,Nat.reduceAdd,Nat.reduceLeDiff,↓reduceIte,Kind.isOwn,exists_eq_left',ne_eq,implies_true,forall_const,reduceCtorEq,forall_eq,BB]⟩
theorem X7 (b p:List UInt8) (hp:b.length+p.length≤2 ^ 38) (cap:Option Nat):Fun Tryz.prog tS 155 [.ptr 0 0,.slc 2 0 1 p.length cap] [(0,⟨.own 160,[.ptr 0 0,.slc 1 0 1 b.length none]⟩),(1,⟨.own 5,aB b⟩),(2,⟨.view,aB p⟩)] 3
  (.tup [.int .i64 (p.length:Int),.val .nilIface]) [(0,⟨.own 160,[.ptr 0 0,.slc 3 0 1 (b.length+p.length) none]⟩),(3,⟨.own 5,aB (b++p)⟩)] 4:=by
 refine aR none (iB 168 (aY Tryz.prog tS) cF) (eZ bI) T2 (Nat.le_of_ble_eq_true rfl) (by decide) ?_
 conv in aJ _ _=>(reduce;simp only[aH,UInt8.reduceOfNat,Int.reduceOfNat,Int.reduceNegSucc])
 rw[aQ]
 simp (maxSteps:=1000000) only [reduceCtorEq,Nat.reduceEqDiff,↓reduceIte,BC,↓PC]
 refine⟨[(0,0),(1,0)],_,_,_,_,2,X5 b b.length,rfl,⟨⟨_,rfl,rfl,rfl,rfl⟩,⟨_,rfl,rfl,rfl,(aC _ b).symm⟩,trivial⟩,⟨by intro x hx;simp at hx;subst hx;intro _;show (0:Nat)≠1;decide,⟨by simp,trivial⟩⟩,⟨by decide,by decide,trivial⟩,by intro x hx;simp at hx;rcases hx with rfl|rfl <;> decide,⟨fun _=>rfl,fun _=>rfl,trivial⟩,?_⟩
 have tp:=a9 p
 have tb:=a9 b
 have hl:=aA p
 have hlb:=aA b
 simp (maxSteps:=1000000) only [tp,tb,hl,hlb,cE,reduceCtorEq,Nat.reduceEqDiff,Nat.reduceAdd,Nat.reduceSub,↓reduceIte,bC,aF,BC,↓PC]
 exact⟨by omega,by omega,[(0,0),(1,0),(2,0),(3,0)],rfl,by simp[aK,aM,aG,bB,b7,rd,SV.ren,SV.renL,Nat.reduceAdd,Nat.reduceLeDiff,↓reduceIte,Kind.isOwn,exists_eq_left',ne_eq,implies_true,forall_const,reduceCtorEq,forall_eq,BB]⟩
def o8 (sig:List UInt8) (k:Nat):List UInt8:=(sig.drop (16 * k)).take 16
def tG (d:List UInt8) (k:Nat):Nat:=((mO d).getD k 0).toNat
def pS (d sig:List UInt8) (k:Nat):List UInt8:=iV k (15 - tG d k) (tG d k) (o8 sig k)
theorem yJ {sig:List UInt8} {k:Nat} (hs:sig.length=560) (hk:k < 35):(o8 sig k).length=16:=by simp[o8,hs];omega
theorem o9 (d:List UInt8) {k:Nat} (hk:k < 35):tG d k≤15∧(mO d)[k]?=some (tG d k:Int):=by
 obtain⟨t,h1,h2⟩:=On d k hk
 unfold tG
 rw[List.getD_eq_getElem?_getD,h2]
 simp
 exact h1
theorem A0 {d sig:List UInt8} {k:Nat} (hs:sig.length=560) (hk:k < 35):(pS d sig k).length=16:=xE _ _ _ _ (yJ hs hk)
def jD (d sig:List UInt8) (k:Nat):List UInt8:=((List.range k).map (pS d sig)).flatten
theorem zQ (d sig:List UInt8) (k:Nat):jD d sig k++pS d sig k=jD d sig (k+1):=by
 unfold jD
 rw[List.range_succ,List.map_append,List.flatten_append]
 simp
theorem qG {d sig:List UInt8} (hs:sig.length=560):∀ {k:Nat},k≤35→(jD d sig k).length=16 * k
 | 0,_=>rfl
 | k+1,hk=>by
  rw[← zQ,List.length_append,qG hs (by omega),A0 hs (by omega)]
  omega
def Ui:bG:=gT ⟨[(129,ES)],[]⟩
theorem Rp:∀ f a m n K,Ui f a m n K→aY Tryz.prog aO f a m n K:=cN Ug
theorem f79 (d sig:List UInt8) (k:Nat) (hs:sig.length=560) (hk:k < 35) :
  Fun Tryz.prog aO 138 [.int .i64 (k:Int),.ptr 0 0,.ptr 1 0] [(0,⟨.own 9,[.str sig]⟩),(1,⟨.own 63,[.slc 2 0 1 35 (some 35)]⟩),(2,⟨.view,d9 (mO d)⟩)] 3
   (.agg (aB (pS d sig k))) [(0,⟨.own 9,[.str sig]⟩),(1,⟨.own 63,[.slc 2 0 1 35 (some 35)]⟩)] 3:=by
 refine aR none Ui Rp Wq (Nat.le_of_ble_eq_true rfl) (by decide) ?_
 conv in aJ _ _=>(reduce;simp only[aH,seval])
 rw[aQ]
 obtain⟨ht,hg⟩:=o9 d hk
 have gg:=uH hg
 have hp:=yJ hs hk
 have w1:IntKind.i64.wrap ((k:Int) * 16)=((16 * k:Nat):Int):=by rw[aD (by omega) (by omega)];omega
 have w2:IntKind.i64.wrap ((k:Int)+1)=((k+1:Nat):Int):=by rw[aD (by omega) (by omega)];omega
 have w3:IntKind.i64.wrap (((k+1:Nat):Int) * 16)=((16 * k+16:Nat):Int):=by rw[aD (by omega) (by omega)];omega
 have b1:(0:Int)≤((16 * k:Nat):Int):=by omega
 have b2:((16 * k:Nat):Int)≤((16 * k+16:Nat):Int):=by omega
 have b3:((16 * k+16:Nat):Int)≤(sig.length:Int):=by omega
 have b4:16 * k+16 - 16 * k=16:=by omega
 have ps:List.take 16 (List.drop (16 * k) sig)=o8 sig k:=rfl
 have ga:=Kq (k:=k) (h:=tG d k) (v:=o8 sig k) (by omega) ht hp
 have ee:iV k (15 - tG d k) (tG d k) (o8 sig k)=pS d sig k:=rfl
 have hel:=A0 (d:=d) hs hk
 have c2:(0:Int)≤(k:Int):=by omega
 have c3:(k:Int) < 35:=by omega
 have dl:=xD d
 have lp:(aB (o8 sig k)).length=16:=by rw[aA,hp]
 have tp:List.take 16 (aB (o8 sig k))=aB (o8 sig k):=List.take_of_length_le (by omega)
 rw[ee] at ga
 have le:(aB (pS d sig k)).length=16:=by rw[aA,hel]
 have te:List.take 16 (aB (pS d sig k))=aB (pS d sig k):=List.take_of_length_le (by omega)
 simp only[Ui,w1,w2,w3,b1,b2,b3,b4,ps,↓ga,gg,c2,c3,dl,hp,lp,tp,le,te,bC,aF,BC,↓PC,seval]
 exact⟨hk,[(0,0),(1,0),(2,0)],rfl,by simp[aK,aM,aG,bB,b7,rd,SV.ren,SV.renL,Kind.isOwn,exists_eq_left',ne_eq,implies_true,forall_const,forall_eq,BB,seval]⟩
def D4 (d sig:List UInt8):Nat→bL
 | 0=>[(3,⟨.own 160,[.val (.pointer none),.val (.slice none 0 0)]⟩),(0,⟨.own 9,[.str sig]⟩),(1,⟨.own 63,[.slc 2 0 1 35 (some 35)]⟩),(2,⟨.view,d9 (mO d)⟩)]
 | k+1=>[(4,⟨.own 5,aB (jD d sig (k+1))⟩),(3,⟨.own 160,[.ptr 3 0,.slc 4 0 1 (16 * (k+1)) none]⟩),(0,⟨.own 9,[.str sig]⟩),(1,⟨.own 63,[.slc 2 0 1 35 (some 35)]⟩),(2,⟨.view,d9 (mO d)⟩)]
def D5:Nat→Nat
 | 0=>4
 | _+1=>5
theorem Oy {d sig:List UInt8} {k:Nat} {m:bL} {n:Nat} {K:Kt} (hs:sig.length=560) (hk:k < 35) (h0:rd m 0=some ⟨.own 9,[.str sig]⟩) (h1:rd m 1=some ⟨.own 63,[.slc 2 0 1 35 (some 35)]⟩)
  (h2:rd m 2=some ⟨.view,d9 (mO d)⟩) (hn:3≤n) (hK:K (.agg (aB (pS d sig k))) ([(0,⟨.own 9,[.str sig]⟩),(1,⟨.own 63,[.slc 2 0 1 35 (some 35)]⟩)]++qM m [0,1]) n) :
  aY Tryz.prog aO 138 [.int .i64 (k:Int),.ptr 0 0,.ptr 1 0] m n K:=by
 refine⟨[(0,0),(1,0),(2,0)],_,_,_,_,3,f79 d sig k hs hk,rfl,⟨⟨_,h0,rfl,rfl,rfl⟩,⟨_,h1,rfl,rfl,rfl⟩,⟨_,h2,Nat.le_of_eq (Nat.zero_add _),?_⟩,trivial⟩,
  ⟨by intro x hx;simp at hx;rcases hx with rfl|rfl <;> (intro _;simp[bB]),⟨by intro x hx;simp at hx;subst hx;intro _;simp[bB],⟨by simp,trivial⟩⟩⟩,⟨by decide,by decide,by decide,trivial⟩,
  by intro x hx;simp at hx;rcases hx with rfl|rfl|rfl <;> (simp only;omega),⟨fun _=>rfl,fun _=>rfl,trivial⟩,?_⟩
 ·simp only[bB,BB]
 ·have e:(SV.agg (aB (pS d sig k))).ren (bB [(0,0),(1,0),(2,0)] n)=.agg (aB (pS d sig k)):=by simp only[SV.ren,aC]
  rw[e]
  exact hK
def Zz:bG:=iB 138 (aY Tryz.prog aO) (iB 155 (aY Tryz.prog aO) (iB 156 (aY Tryz.prog aO) cF))
theorem Oz:∀ f a m n K,Zz f a m n K→aY Tryz.prog aO f a m n K:=eZ (eZ (eZ bI))
theorem f78 (d sig:List UInt8) (hs:sig.length=560) :
  Fun Tryz.prog aO 127 [.fn 138 [] [.ptr 0 0,.ptr 1 0]] [(0,⟨.own 9,[.str sig]⟩),(1,⟨.own 63,[.slc 2 0 1 35 (some 35)]⟩),(2,⟨.view,d9 (mO d)⟩)] 3
   (.str (jD d sig 35)) [(0,⟨.own 9,[.str sig]⟩),(1,⟨.own 63,[.slc 2 0 1 35 (some 35)]⟩)] 3:=by
 refine aR none Zz Oz Wj (Nat.le_of_ble_eq_true rfl) (by decide) ?_
 conv in aJ _ _=>(reduce;simp only[aH,seval])
 rw[aQ]
 simp only[Zz,BC,↓PC,seval]
 rw[aL]
 have rI:∀ η,SV.renL η (d9 (mO d))=d9 (mO d):=fun η=>kG η _
 refine bF Oz (σ:=Nat) (fun k=>[(6,.int .i64 (k:Int)),(3,.ptr 3 0),(0,.fn 138 [] [.ptr 0 0,.ptr 1 0])]) (D4 d sig) D5
  (fun k=>k≤35) (fun k=>35 - k) 0 ?_ (Nat.zero_le _) ?_
 ·exact⟨[(0,0),(1,0),(2,0),(3,0)],by simp only[D4,D5,rI,BC,seval],by simp[BC,seval]⟩
 ·intro k hk
  by_cases A9:k < 35
  ·have hel:=A0 (d:=d) hs A9
   have hstp:=zQ d sig k
   have hlk:=qG (d:=d) hs hk
   have c1:(k:Int) < 35:=by omega
   have v4:IntKind.i64.wrap ((k:Int)+1)=((k+1:Nat):Int):=by rw[aD (by omega) (by omega)];omega
   have le:(aB (pS d sig k)).length=16:=by rw[aA,hel]
   have te:List.take 16 (aB (pS d sig k))=aB (pS d sig k):=List.take_of_length_le (by omega)
   cases k with
   | zero=>
    simp only[D4,D5]
    simp only[BC,↓PC,seval]
    refine Oy (k:=0) hs A9 rfl rfl rfl (by decide) ?_
    simp only[le,bC,aF,BC,↓PC,seval]
    have f91:=X6 (tS:=aO) (pS d sig 0) (by omega) (some 16)
    rw[hel] at f91
    refine⟨[(3,0),(4,0)],_,_,_,_,3,f91,rfl,⟨⟨_,rfl,rfl,rfl,rfl⟩,⟨_,rfl,Nat.le_of_eq (Nat.zero_add _),?_⟩,trivial⟩,
     ⟨by intro x hx;simp at hx;subst hx;intro _;simp[bB],⟨by simp,trivial⟩⟩,⟨by decide,by decide,trivial⟩,by intro x hx;simp at hx;rcases hx with rfl|rfl <;> decide,⟨fun _=>rfl,fun _=>rfl,trivial⟩,?_⟩
    ·simp only[bB,BB]
    have e1:jD d sig 1=pS d sig 0:=by rw[← hstp];rfl
    simp only[BC,↓PC,seval]
    exact⟨1,⟨[(0,0),(1,0),(2,0),(3,0),(5,0)],by simp only[D4,D5,e1,rI,BC,seval],by simp[BC,seval]⟩,by omega,by omega⟩
   | succ k=>
    simp only[D4,D5]
    simp only[c1,BC,↓PC,seval]
    refine Oy (k:=k+1) hs A9 rfl rfl rfl (by decide) ?_
    simp only[le,bC,aF,BC,↓PC,seval]
    have f91:=X7 (tS:=aO) (jD d sig (k+1)) (pS d sig (k+1)) (by omega) (some 16)
    rw[hel,hlk,hstp] at f91
    refine⟨[(3,0),(4,0),(5,0)],_,_,_,_,4,f91,rfl,⟨⟨_,rfl,rfl,rfl,rfl⟩,⟨_,rfl,rfl,rfl,(aC _ _).symm⟩,⟨_,rfl,Nat.le_of_eq (Nat.zero_add _),?_⟩,trivial⟩,
     ⟨by intro x hx;simp at hx;rcases hx with rfl|rfl <;> (intro _;simp[bB]),⟨by intro x hx;simp at hx;subst hx;intro _;simp[bB],⟨by simp,trivial⟩⟩⟩,⟨by decide,by decide,by decide,trivial⟩,by intro x hx;simp at hx;rcases hx with rfl|rfl|rfl <;> decide,⟨fun _=>rfl,fun _=>rfl,trivial⟩,?_⟩
    ·simp only[bB,BB]
    simp only[v4,BC,↓PC,seval]
    exact⟨k+1+1,⟨[(0,0),(1,0),(2,0),(3,0),(6,0)],by simp only[D4,D5,rI,BC,seval] <;> rfl,by simp[BC,seval]⟩,by omega,by omega⟩
  ·obtain rfl:k=35:=by omega
   simp only[D4,D5]
   simp only[BC,↓PC,seval]
   have hl:=qG (d:=d) hs (Nat.le_refl 35)
   have f9:=f92 (tS:=aO) (jD d sig 35) (by omega) (by omega)
   rw[hl] at f9
   refine⟨[(3,0),(4,0)],_,_,_,_,2,f9,rfl,⟨⟨_,rfl,rfl,rfl,rfl⟩,⟨_,rfl,rfl,rfl,(aC _ _).symm⟩,trivial⟩,
    ⟨by intro x hx;simp at hx;subst hx;intro _;simp[bB],⟨by simp,trivial⟩⟩,⟨by decide,by decide,trivial⟩,by intro x hx;simp at hx;rcases hx with rfl|rfl <;> decide,trivial,?_⟩
   simp only[BC,↓PC,seval]
   exact⟨[(0,0),(1,0),(2,0)],rfl,by simp[aK,aM,aG,bB,b7,rd,SV.ren,SV.renL,Kind.isOwn,exists_eq_left',ne_eq,implies_true,forall_const,forall_eq,BB,seval]⟩
def tJ (d sig:List UInt8):List UInt8:=dE 5 [jD d sig 35]
def IN:List (FuncId × GS):=[(126,IK),(131,T5)]
theorem PA:∀ x∈IN,dQ Tryz.prog aO x.1 x.2:=by
 intro x hx
 simp only[IN,List.mem_cons,List.not_mem_nil,or_false] at hx
 rcases hx with rfl|rfl
 ·exact Oq
 ·exact O8.more GL
theorem D6 {tag:Int} {s:List UInt8} (hs:s.length≤2 ^ 36):Kg tag [s]:=by
 refine⟨fun p hp=>?_,?_,by simp⟩
 ·simp only[List.mem_singleton] at hp
  subst hp
  omega
 ·have:=aS (s.length:Int)
  simp[dV,bU]
  omega
theorem Rq {tag:Int} {s:List UInt8} (hs:s.length≤2 ^ 36):T5 [.int .i64 tag,.slc 0 0 1 1 none] [(0,⟨.view,[.str s]⟩)]=some (.agg (aB (dE tag [s])),[],1):=by
 unfold T5
 simp only
 rw[show [SV.str s]=m9 [s] from rfl,mN]
 simp only[jO,List.length_cons,List.length_nil]
 rw[if_pos ⟨trivial,D6 hs⟩]
theorem D7 {tag:Int} {s:List UInt8} (hs:s.length≤2 ^ 36):Bv [.int .i64 tag,.slc 0 0 1 1 none] [(0,⟨.view,[.str s]⟩)]=some (.agg (aB (dE tag [s])),[],1):=by
 unfold Bv
 simp only
 rw[show [SV.str s]=m9 [s] from rfl,mN]
 simp only[jO,List.length_cons,List.length_nil]
 rw[if_pos ⟨trivial,D6 hs⟩]
theorem PD {d:List UInt8} (hd:d.length=16):IK [.agg (aB d)] []=some (.slc 0 0 1 35 (some 35),[(0,⟨.own 157,d9 (mO d)⟩)],1):=by
 unfold IK
 simp only[aT]
 rw[if_pos hd]
def X8:bG:=iB 127 (aY Tryz.prog aO) (dR IN cF)
theorem PE:∀ f a m n K,X8 f a m n K→aY Tryz.prog aO f a m n K:=eZ (bA PA bI)
def bY:List UInt8:=List.replicate 16 0
theorem f62 (d sig:List UInt8) (hd:d.length=16) (hs:sig.length=560):Fun Tryz.prog aO 101 [.agg (aB d),.str sig] [] 0 (.tup [.agg (aB (tJ d sig)),.int .i64 0]) [] 0:=by
 refine bT none X8 PE TT (Nat.le_of_ble_eq_true rfl) (fun η=>by simp only[SV.ren,SV.renL,aC]) ?_
 conv in aJ _ _=>(reduce;simp only[aH,seval])
 rw[aQ]
 have hl:(aB d).length=16:=by rw[aA,hd]
 have gd:=PD hd
 have tb:List.take 16 (aB d)=aB d:=List.take_of_length_le (by omega)
 have e560:((sig.length:Int) != 560)=false:=by rw[hs];rfl
 simp only[X8,IN,↓gd,hl,tb,e560,bC,aF,BC,↓PC,seval]
 refine⟨[(1,0),(4,0),(3,0)],_,_,_,_,3,f78 d sig hs,rfl,⟨⟨_,rfl,rfl,rfl,rfl⟩,⟨_,rfl,rfl,rfl,rfl⟩,⟨_,rfl,Nat.le_of_eq (Nat.zero_add _),?_⟩,trivial⟩,
  ⟨by intro x hx;simp at hx;rcases hx with rfl|rfl <;> (intro _;simp[bB]),⟨by intro x hx;simp at hx;subst hx;intro _;simp[bB],⟨by simp,trivial⟩⟩⟩,⟨by decide,by decide,by decide,trivial⟩,
  by intro x hx;simp at hx;rcases hx with rfl|rfl|rfl <;> decide,⟨fun _=>rfl,fun _=>rfl,trivial⟩,?_⟩
 ·simp only[bB,BB]
 have hl5:=qG (d:=d) hs (Nat.le_refl 35)
 have go:=Rq (tag:=5) (s:=jD d sig 35) (by omega)
 have hO:=bK 5 [jD d sig 35]
 unfold tJ
 generalize dE 5 [jD d sig 35]=O at *
 have lO:(aB O).length=16:=by rw[aA,hO]
 have tO:List.take 16 (aB O)=aB O:=List.take_of_length_le (by omega)
 simp only[↓go,lO,tO,bC,aF,BC,↓PC,seval]
theorem AAa (d sig:List UInt8) (hd:d.length=16) (hs:sig.length≠560):Fun Tryz.prog aO 101 [.agg (aB d),.str sig] [] 0 (.tup [.agg (aB bY),.int .i64 1]) [] 0:=by
 refine bT none X8 PE TT (Nat.le_of_ble_eq_true rfl) (fun η=>by simp only[SV.ren,SV.renL,aC]) ?_
 conv in aJ _ _=>(reduce;simp only[aH,seval])
 rw[aQ]
 have e560:((sig.length:Int) != 560)=true:=by simp;omega
 simp only[X8,IN,e560,bC,aF,BC,↓PC,seval]
 rfl
theorem PF {X:List UInt8} {i:Nat} (hX:16≤X.length) (h:i≤16):(yH X i).length=16:=by simp[yH,aA];omega
theorem f102 (s:List UInt8) (hs:16≤s.length):Fun Tryz.prog tS 158 [.str s] [] 0 (.agg (aB (s.take 16))) [] 0:=by
 refine bT none cF bI XE (Nat.le_of_ble_eq_true rfl) (fun η=>by simp only[SV.ren,aC]) ?_
 conv in aJ _ _=>(reduce;simp only[aH,seval])
 rw[aQ]
 simp only[BC,↓PC,seval]
 rw[aL]
 have rz:∀ η,SV.renL η wZ=wZ:=fun η=>SV.flatL_ren η wZ rfl
 have rC:∀ η i,SV.renL η (yH s i)=yH s i:=fun η i=>GH η s i
 refine bF bI (σ:=Nat) (fun i=>[(4,.int .i64 (i:Int)),(3,.ptr 1 0),(2,.ptr 0 0),(0,.str s)]) (fun i=>[(1,⟨.own 24,yH s i⟩),(0,⟨.own 24,wZ⟩)]) (fun _=>2)
  (fun i=>i≤16) (fun i=>16 - i) 0 ?_ (Nat.zero_le _) ?_
 ·exact⟨[(0,0),(1,0)],by simp only[rC,rz,BC,seval] <;> exact⟨rfl,rfl⟩,by simp[BC,seval]⟩
 ·intro i hi
  have lC:=PF hs hi
  by_cases uT:i < 16
  ·obtain⟨x,hx⟩:∃ x,s[i]?=some x:=⟨s[i]'(by omega),by rw[List.getElem?_eq_getElem]⟩
   have c1:(i:Int) < 16:=by omega
   have c2:(0:Int)≤(i:Int):=by omega
   have v4:IntKind.i64.wrap ((i:Int)+1)=((i+1:Nat):Int):=by rw[aD (by omega) (by omega)];omega
   have op:=CM hx uT
   simp only[c1,c2,hx,v4,lC,op,SV.byte,bC,BC,↓PC,seval]
   exact⟨by omega,i+1,⟨[(0,0),(1,0)],by simp only[rC,rz,BC,seval],by simp[BC,seval]⟩,by omega,by omega⟩
  ·obtain rfl:i=16:=by omega
   simp only[lC,bC,BC,↓PC,seval]
   have tC:List.take 16 (yH s 16)=yH s 16:=List.take_of_length_le (by omega)
   have sC:aF wZ 0 (yH s 16)=yH s 16:=fN (by rw[lC];rfl)
   rw[tC,sC,tC]
   exact⟨lC,by decide,by omega,CL⟩
def IP:List SV→Option SV
 | [.str s]=>if 16≤s.length then some (.agg (aB (s.take 16))) else none
 | _=>none
theorem IQ {s:List UInt8} (h:16≤s.length):IP [.str s]=some (.agg (aB (s.take 16))):=if_pos h
def D8:Tab:=⟨[(133,ES),(158,IP)],[]⟩
theorem M7:TabX Tryz.prog aO D8:=by
 refine⟨fun x h args r hr=>?_,fun x h=>by simp[D8] at h⟩
 simp only[D8,List.mem_cons,List.not_mem_nil,or_false] at h
 rcases h with rfl|rfl
 ·exact Ro.p (133,ES) (by simp) args r hr
 ·simp only at hr
  unfold IP at hr
  split at hr
  ·split at hr
   ·rename_i hc
    cases hr
    exact⟨f102 _ hc,fun η=>by simp only[SV.renL,SV.ren],fun η=>by simp only[SV.renL,SV.ren,aC]⟩
   ·cases hr
  ·cases hr
theorem FJ {d:List UInt8} (hd:d.length=16):BO [.agg (aB d)] []=some (.slc 0 0 1 35 none,[(0,⟨.own 3,d9 (mO d)⟩)],1):=by
 unfold BO
 simp only[aT]
 rw[if_pos hd]
theorem fE {d:List UInt8} (hd:d.length=16):vV [.agg (aB d)] []=some (.str d,[],0):=by
 unfold vV
 simp only[aT]
 rw[if_pos hd]
def Ks:List (FuncId × GS):=[(132,BO),(47,vV)]
theorem PG:∀ x∈Ks,dQ Tryz.prog aO x.1 x.2:=by
 intro x hx
 simp only[Ks,List.mem_cons,List.not_mem_nil,or_false] at hx
 rcases hx with rfl|rfl
 ·exact FG
 ·exact xC
def cEs:bG:=dR Ks (gT D8)
theorem PH:∀ f a m n K,cEs f a m n K→aY Tryz.prog aO f a m n K:=bA PG (cN M7)
theorem f83 (d sig:List UInt8) (hd:d.length=16) (hs:sig.length=560):Fun Tryz.prog aO 141 [.agg (aB d),.str sig] [] 0 (.str (jD d sig 35)) [] 0:=by
 refine bT none cEs PH Ws (Nat.le_of_ble_eq_true rfl) (fun η=>rfl) ?_
 conv in aJ _ _=>(reduce;simp only[aH,seval])
 rw[aQ]
 have hl:(aB d).length=16:=by rw[aA,hd]
 have gd:=FJ hd
 have tb:List.take 16 (aB d)=aB d:=List.take_of_length_le (by omega)
 simp only[cEs,Ks,D8,↓gd,hl,tb,BC,↓PC,seval]
 rw[aL]
 have rI:∀ η,SV.renL η (d9 (mO d))=d9 (mO d):=fun η=>kG η _
 have dl:=xD d
 refine bF PH (σ:=Nat) (fun k=>[(7,.int .i64 (k:Int)),(6,.str (jD d sig k)),(5,.slc 1 0 1 35 none),(1,.str sig)]) (fun _=>[(1,⟨.own 3,d9 (mO d)⟩)]) (fun _=>2)
  (fun k=>k≤35) (fun k=>35 - k) 0 ?_ (Nat.zero_le _) ?_
 ·exact⟨[(0,0),(1,0)],by simp only[rI,BC,seval],by simp[jD,BC,seval]⟩
 ·intro k hk
  by_cases A9:k < 35
  ·obtain⟨ht,hg⟩:=o9 d A9
   have gg:=uH hg
   have hp:=yJ hs A9
   have c1:(k:Int) < 35:=by omega
   have c2:(0:Int)≤(k:Int):=by omega
   have v4:IntKind.i64.wrap ((k:Int)+1)=((k+1:Nat):Int):=by rw[aD (by omega) (by omega)];omega
   have w1:IntKind.i64.wrap (16 * (k:Int))=((16 * k:Nat):Int):=by rw[aD (by omega) (by omega)];omega
   have b1:(0:Int)≤((16 * k:Nat):Int):=by omega
   have b2:((16 * k:Nat):Int)≤(sig.length:Int):=by omega
   have gr:=IQ (s:=List.take (sig.length - 16 * k) (List.drop (16 * k) sig)) (by simp;omega)
   have ps:List.take 16 (List.take (sig.length - 16 * k) (List.drop (16 * k) sig))=o8 sig k:=by
    unfold o8
    rw[List.take_take,Nat.min_eq_left (by omega)]
   rw[ps] at gr
   have ga:=Kq (k:=k) (h:=tG d k) (v:=o8 sig k) (by omega) ht hp
   have ee:iV k (15 - tG d k) (tG d k) (o8 sig k)=pS d sig k:=rfl
   rw[ee] at ga
   have hel:=A0 (d:=d) hs A9
   have gt:=fE hel
   have hst:=zQ d sig k
   have fp:=aX (o8 sig k)
   have fe:=aX (pS d sig k)
   simp only[↓gr,↓ga,↓gt,gg,dl,c1,c2,v4,w1,b1,b2,fp,fe,hst,oZ,BC,↓PC,seval]
   have hlk:=qG (d:=d) hs hk
   exact⟨A9,by omega,by unfold cH;omega,k+1,⟨[(0,0),(1,0)],by simp only[rI,BC,seval],by simp[BC,seval]⟩,by omega,by omega⟩
  ·obtain rfl:k=35:=by omega
   simp only[BC,↓PC,seval]
def Ku:List SV→Option SV
 | [.agg cells,.str sig]=>match rQ cells with
  | some d=>if d.length=16∧sig.length=560 then some (.str (jD d sig 35)) else none
  | none=>none
 | _=>none
theorem PI {d sig:List UInt8} (hd:d.length=16) (hs:sig.length=560):Ku [.agg (aB d),.str sig]=some (.str (jD d sig 35)):=by
 unfold Ku
 simp only[aT]
 rw[if_pos ⟨hd,hs⟩]
def FK:Tab:=⟨[(141,Ku)],[]⟩
theorem PJ:TabX Tryz.prog aO FK:=by
 refine⟨fun x h args r hr=>?_,fun x h=>by simp[FK] at h⟩
 simp only[FK,List.mem_singleton] at h
 subst h
 simp only at hr
 unfold Ku at hr
 split at hr
 ·split at hr
  ·rename_i d hd
   split at hr
   ·rename_i hc
    cases hr
    rw[b8 hd]
    exact⟨f83 d _ hc.1 hc.2,fun η=>by simp only[SV.renL,SV.ren,aC],fun η=>by simp only[SV.renL,SV.ren]⟩
   ·cases hr
  ·cases hr
 ·cases hr
def IR:List (FuncId × GS):=[(76,Bv)]
theorem PK:∀ x∈IR,dQ Tryz.prog aO x.1 x.2:=by
 intro x hx
 simp only[IR,List.mem_cons,List.not_mem_nil,or_false] at hx
 subst hx
 exact CN
def Xa:bG:=dR IR (gT FK)
theorem PL:∀ f a m n K,Xa f a m n K→aY Tryz.prog aO f a m n K:=bA PK (cN PJ)
theorem f66 (d sig:List UInt8) (hd:d.length=16) (hs:sig.length=560):Fun Tryz.prog aO 105 [.agg (aB d),.str sig] [] 0 (.tup [.agg (aB (tJ d sig)),.int .i64 0]) [] 0:=by
 refine bT none Xa PL TV (Nat.le_of_ble_eq_true rfl) (fun η=>by simp only[SV.ren,SV.renL,aC]) ?_
 conv in aJ _ _=>(reduce;simp only[aH,seval])
 rw[aQ]
 have hl:(aB d).length=16:=by rw[aA,hd]
 have ge:=PI hd hs
 have tb:List.take 16 (aB d)=aB d:=List.take_of_length_le (by omega)
 have e560:((sig.length:Int) != 560)=false:=by rw[hs];rfl
 have hl5:=qG (d:=d) hs (Nat.le_refl 35)
 have go:=D7 (tag:=5) (s:=jD d sig 35) (by omega)
 have hO:=bK 5 [jD d sig 35]
 unfold tJ
 generalize dE 5 [jD d sig 35]=O at *
 have lO:(aB O).length=16:=by rw[aA,hO]
 have tO:List.take 16 (aB O)=aB O:=List.take_of_length_le (by omega)
 simp only[Xa,IR,FK,↓ge,↓go,hl,tb,e560,lO,tO,bC,aF,BC,↓PC,seval]
theorem AAb (d sig:List UInt8) (hd:d.length=16) (hs:sig.length≠560):Fun Tryz.prog aO 105 [.agg (aB d),.str sig] [] 0 (.tup [.agg (aB bY),.int .i64 1]) [] 0:=by
 refine bT none Xa PL TV (Nat.le_of_ble_eq_true rfl) (fun η=>by simp only[SV.ren,SV.renL,aC]) ?_
 conv in aJ _ _=>(reduce;simp only[aH,seval])
 rw[aQ]
 have e560:((sig.length:Int) != 560)=true:=by simp;omega
 simp only[Xa,IR,FK,e560,bC,aF,BC,↓PC,seval]
 rfl
def ET:List SV→Option SV
 | [.agg cells,.str sig]=>match rQ cells with
  | some d=>if d.length=16 then (match decide (sig.length=560) with
   | true=>some (.tup [.agg (aB (tJ d sig)),.int .i64 0])
   | false=>some (.tup [.agg (aB bY),.int .i64 1])) else none
  | none=>none
 | _=>none
theorem Da {d sig:List UInt8} (hd:d.length=16) (hs:sig.length=560):ET [.agg (aB d),.str sig]=some (.tup [.agg (aB (tJ d sig)),.int .i64 0]):=by
 unfold ET
 simp only[aT]
 rw[if_pos hd,decide_eq_true hs]
theorem GM {d sig:List UInt8} (hd:d.length=16) (hs:sig.length≠560):ET [.agg (aB d),.str sig]=some (.tup [.agg (aB bY),.int .i64 1]):=by
 unfold ET
 simp only[aT]
 rw[if_pos hd,decide_eq_false hs]
theorem Kv {f:FuncId} (H1:∀ d sig:List UInt8,d.length=16→sig.length=560→Fun Tryz.prog aO f [.agg (aB d),.str sig] [] 0 (.tup [.agg (aB (tJ d sig)),.int .i64 0]) [] 0)
  (H2:∀ d sig:List UInt8,d.length=16→sig.length≠560→Fun Tryz.prog aO f [.agg (aB d),.str sig] [] 0 (.tup [.agg (aB bY),.int .i64 1]) [] 0) :
  ∀ args r,ET args=some r→Fun Tryz.prog aO f args [] 0 r [] 0∧(∀ η,SV.renL η args=args)∧∀ η,r.ren η=r:=by
 intro args r hr
 unfold ET at hr
 split at hr
 ·split at hr
  ·rename_i d hd
   split at hr
   ·rename_i hc
    rw[b8 hd]
    split at hr
    ·rename_i h;cases hr;exact⟨H1 d _ hc (of_decide_eq_true h),fun η=>by simp only[SV.renL,SV.ren,aC],fun η=>by simp only[SV.renL,SV.ren,aC]⟩
    ·rename_i h;cases hr;exact⟨H2 d _ hc (of_decide_eq_false h),fun η=>by simp only[SV.renL,SV.ren,aC],fun η=>by simp only[SV.renL,SV.ren,aC]⟩
   ·cases hr
  ·cases hr
 ·cases hr
theorem Uj:∀ args r,ET args=some r→Fun Tryz.prog aO 101 args [] 0 r [] 0∧(∀ η,SV.renL η args=args)∧∀ η,r.ren η=r:=Kv f62 AAa
theorem Uk:∀ args r,ET args=some r→Fun Tryz.prog aO 105 args [] 0 r [] 0∧(∀ η,SV.renL η args=args)∧∀ η,r.ren η=r:=Kv f66 AAb
theorem cI {d:List UInt8} (hd:d.length=16):List.take 16 (aB d)=aB d:=List.take_of_length_le (by rw[aA];omega)
def cDi:bG:=dR FH cF
theorem Ul:∀ f a m n K,cDi f a m n K→aY Tryz.prog aO f a m n K:=bA IM bI
theorem f63 (p msg:List UInt8) (i:Int) (hp:p.length=16) (hm:msg.length≤2 ^ 30):Fun Tryz.prog aO 89 [.agg (aB p),.int .i64 i,.str msg] [] 0 (.agg (aB (dE 6 [p,aP i,msg]))) [] 0:=by
 refine bT none cDi Ul Zf (Nat.le_of_ble_eq_true rfl) (fun η=>by simp only[SV.ren,aC]) ?_
 conv in aJ _ _=>(reduce;simp only[aH,seval])
 rw[aQ]
 have hl:(aB p).length=16:=by rw[aA,hp]
 have tp:=cI hp
 have e2:=aS i
 have go:=Kp (tag:=6) (a:=p) (b:=aP i) (c:=msg) (by omega) (by omega) (by omega)
 have au1:=dD (aP i)
 have mb1:=bR (aP i)
 have tb1:=a9 (aP i)
 have au2:=dD p
 have mb2:=bR p
 have hO:=bK 6 [p,aP i,msg]
 generalize dE 6 [p,aP i,msg]=O at *
 have lO:(aB O).length=16:=by rw[aA,hO]
 have tO:=cI hO
 simp only[cDi,FH,EQ,↓go,hl,tp,au1,mb1,tb1,au2,mb2,lO,tO,oZ,bC,aF,BC,↓PC,seval]
theorem f67 (p msg:List UInt8) (i:Int) (hp:p.length=16) (hm:msg.length≤2 ^ 30) (hi:kJ i):Fun Tryz.prog aO 94 [.agg (aB p),.int .i64 i,.str msg] [] 0 (.agg (aB (dE 6 [p,aP i,msg]))) [] 0:=by
 refine bT none Uh D3 Zi (Nat.le_of_ble_eq_true rfl) (fun η=>by simp only[SV.ren,aC]) ?_
 conv in aJ _ _=>(reduce;simp only[aH,seval])
 rw[aQ]
 have hl:(aB p).length=16:=by rw[aA,hp]
 have tp:=cI hp
 have e2:=aS i
 have go:=DY (tag:=6) (a:=p) (b:=aP i) (c:=msg) (by omega) (by omega) (by omega)
 have gi:=mB hi
 have au1:=dD (aP i)
 have mb1:=bR (aP i)
 have tb1:=a9 (aP i)
 have hO:=bK 6 [p,aP i,msg]
 generalize dE 6 [p,aP i,msg]=O at *
 have lO:(aB O).length=16:=by rw[aA,hO]
 have tO:=cI hO
 simp only[Uh,FI,vV,aT,hp,↓gi,↓go,hl,tp,au1,mb1,tb1,lO,tO,bC,aF,BC,↓PC,seval]
def BP (label p:List UInt8):List UInt8:=bU label++bU p
theorem AAc (label p:List UInt8) (h1:label.length≤2 ^ 20) (h2:p.length≤2 ^ 20) :
  Fun Tryz.prog tS 122 [.str label,.slc 0 0 1 1 none] [(0,⟨.view,[.str p]⟩)] 1 (.str (BP label p)) [] 1:=by
 refine aR none XU GG Wg (Nat.le_of_ble_eq_true rfl) (by decide) ?_
 conv in aJ _ _=>(reduce;simp only[aH,UInt8.reduceOfNat,Int.reduceOfNat,Int.reduceNegSucc])
 rw[aQ]
 unfold BP
 have g1:=vM (s:=label) (by omega)
 have g2:=vM (s:=p) (by omega)
 have e1:=aS (label.length:Int)
 have e2:=aS (p.length:Int)
 have l1:(bU label).length≤2 ^ 21:=by simp only[bU,List.length_append];omega
 have l2:(bU p).length≤2 ^ 21:=by simp only[bU,List.length_append];omega
 generalize bU label=A at *
 generalize bU p=B at *
 have tA:=a9 A
 have tB:=a9 B
 have ap:aB A++aB B=aB (A++B):=cE A B
 have lAB:(A++B).length=A.length+B.length:=List.length_append
 have tAB:=a9 (A++B)
 rw[lAB] at tAB
 have au:=dD (A++B)
 have mb:=bR (A++B)
 have d0:∀ x:SV,[x]=[x]:=fun _=>rfl
 simp (maxSteps:=1000000) only [XU,↓g1,tA,reduceCtorEq,Nat.reduceEqDiff,Nat.reduceAdd,↓reduceIte,BC,↓PC]
 refine⟨by omega,by decide,?_⟩
 rw[aL]
 refine a8 GG (aN _ _) 2 ?_
 simp (maxSteps:=1000000) only [↓g2,tA,tB,ap,tAB,au,mb,reduceCtorEq,Nat.reduceEqDiff,Nat.reduceAdd,Nat.reduceLT,Int.reduceToNat,Int.reduceLT,Int.reduceLE,Int.reduceAdd,Int.reduceNeg,↓reduceIte,BC,↓PC]
 exact⟨by omega,by decide,by omega,[(0,0)],by simp[BC]⟩
def Rt:GS
 | [.str label,.slc 0 0 1 1 none],[(0,⟨.view,[.str p]⟩)]=>if label.length≤2 ^ 20∧p.length≤2 ^ 20 then some (.str (BP label p),[],1) else none
 | _,_=>none
theorem Ru {label p:List UInt8} (h1:label.length≤2 ^ 20) (h2:p.length≤2 ^ 20):Rt [.str label,.slc 0 0 1 1 none] [(0,⟨.view,[.str p]⟩)]=some (.str (BP label p),[],1):=if_pos ⟨h1,h2⟩
theorem Rv:dQ Tryz.prog tS 122 Rt:=by
 intro a0 m0 r m1 n1 h
 unfold Rt at h
 split at h
 ·split at h
  ·rename_i hc
   cases h
   exact⟨AAc _ _ hc.1 hc.2,by simp[dA]⟩
  ·cases h
 ·cases h
def Um:List SV→Option SV
 | [.str key,.str text]=>if key.length≤64∧text.length≤2 ^ 30 then some (.str (BM key text)) else none
 | _=>none
theorem Rw {key text:List UInt8} (h1:key.length≤64) (h2:text.length≤2 ^ 30):Um [.str key,.str text]=some (.str (BM key text)):=if_pos ⟨h1,h2⟩
def Xb:Tab:=⟨[(121,Um)],[]⟩
theorem Un:TabX Tryz.prog aO Xb:=by
 refine⟨fun x h args r hr=>?_,fun x h=>by simp[Xb] at h⟩
 simp only[Xb,List.mem_singleton] at h
 subst h
 simp only at hr
 unfold Um at hr
 split at hr
 ·split at hr
  ·rename_i hc
   cases hr
   exact⟨XW _ _ hc.1 hc.2,fun η=>rfl,fun η=>rfl⟩
  ·cases hr
 ·cases hr
def Kw:List (FuncId × GS):=[(122,Rt)]
theorem PM:∀ x∈Kw,dQ Tryz.prog aO x.1 x.2:=by
 intro x hx
 simp only[Kw,List.mem_singleton] at hx
 subst hx
 exact Rv
def cDe:bG:=dR Kw (gT Xb)
theorem Uo:∀ f a m n K,cDe f a m n K→aY Tryz.prog aO f a m n K:=bA PM (cN Un)
def yV (key label p:List UInt8):List UInt8:=BM key (BP label p)
theorem xF (key label p:List UInt8):(yV key label p).length=32:=II _ _
theorem IS {label p:List UInt8} (h1:label.length≤2 ^ 20) (h2:p.length≤2 ^ 20):(BP label p).length≤2 ^ 30:=by
 have e1:=aS (label.length:Int)
 have e2:=aS (p.length:Int)
 simp only[BP,bU,List.length_append];omega
theorem Xc (key label p:List UInt8) (hk:key.length≤64) (h1:label.length≤2 ^ 20) (h2:p.length≤2 ^ 20) :
  Fun Tryz.prog aO 85 [.str key,.str label,.slc 0 0 1 1 none] [(0,⟨.view,[.str p]⟩)] 1 (.str (yV key label p)) [] 1:=by
 refine aR none cDe Uo Ze (Nat.le_of_ble_eq_true rfl) (by decide) ?_
 conv in aJ _ _=>(reduce;simp only[aH,UInt8.reduceOfNat,Int.reduceOfNat,Int.reduceNegSucc])
 rw[aQ]
 unfold yV
 have g1:=Ru h1 h2
 have hl:=IS h1 h2
 generalize BP label p=A at *
 have g2:=Rw hk hl
 generalize BM key A=B at *
 simp (maxSteps:=1000000) only [cDe,Kw,Xb,↓g1,↓g2,reduceCtorEq,Nat.reduceEqDiff,Nat.reduceAdd,Nat.reduceSub,Nat.reduceLT,↓reduceIte,BC,↓PC]
 exact⟨[(0,0)],by simp[BC]⟩
def Rx:GS
 | [.str key,.str label,.slc 0 0 1 1 none],[(0,⟨.view,[.str p]⟩)]=>if key.length≤64∧label.length≤2 ^ 20∧p.length≤2 ^ 20 then some (.str (yV key label p),[],1) else none
 | _,_=>none
theorem Kx {key label p:List UInt8} (hk:key.length≤64) (h1:label.length≤2 ^ 20) (h2:p.length≤2 ^ 20):Rx [.str key,.str label,.slc 0 0 1 1 none] [(0,⟨.view,[.str p]⟩)]=some (.str (yV key label p),[],1):=if_pos ⟨hk,h1,h2⟩
theorem Ry:dQ Tryz.prog aO 85 Rx:=by
 intro a0 m0 r m1 n1 h
 unfold Rx at h
 split at h
 ·split at h
  ·rename_i hc
   cases h
   exact⟨Xc _ _ _ hc.1 hc.2.1 hc.2.2,by simp[dA]⟩
  ·cases h
 ·cases h
def IT:List (FuncId × GS):=[(49,uL),(85,Rx)]
theorem PN:∀ x∈IT,dQ Tryz.prog aO x.1 x.2:=by
 intro x hx
 simp only[IT,List.mem_cons,List.not_mem_nil,or_false] at hx
 rcases hx with rfl|rfl
 ·exact uM
 ·exact Ry
def Vo:Tab:=⟨[(158,IP)],[]⟩
theorem Up:TabX Tryz.prog tS Vo:=by
 refine⟨fun x h args r hr=>?_,fun x h=>by simp[Vo] at h⟩
 simp only[Vo,List.mem_singleton] at h
 subst h
 simp only at hr
 unfold IP at hr
 split at hr
 ·split at hr
  ·rename_i hc
   cases hr
   exact⟨f102 _ hc,fun η=>rfl,fun η=>by simp only[SV.renL,SV.ren,aC]⟩
  ·cases hr
 ·cases hr
def Xd:bG:=dR IT (gT Vo)
theorem PO:∀ f a m n K,Xd f a m n K→aY Tryz.prog aO f a m n K:=bA PN (cN Up)
def gM (seed:List UInt8) (i:Int):List UInt8:=yV seed [108,101,97,102] (aP i)
theorem yK (seed:List UInt8) (i:Int):(gM seed i).length=32:=xF _ _ _
theorem Xe (seed:List UInt8) (i:Int) (hk:seed.length≤64) (hi:kJ i):Fun Tryz.prog aO 93 [.str seed,.int .i64 i] [] 0 (.str (gM seed i)) [] 0:=by
 refine bT none Xd PO Zh (Nat.le_of_ble_eq_true rfl) (fun η=>rfl) ?_
 conv in aJ _ _=>(reduce;simp only[aH,UInt8.reduceOfNat,Int.reduceOfNat,Int.reduceNegSucc])
 rw[aQ]
 unfold gM
 have gi:=mB hi
 have e1:=aS i
 have gd:=Kx (key:=seed) (label:=[108,101,97,102]) (p:=aP i) hk (by decide) (by omega)
 have tA:=a9 (aP i)
 have au:=dD (aP i)
 have mb:=bR (aP i)
 generalize aP i=A at *
 generalize yV seed [108,101,97,102] A=B at *
 simp (maxSteps:=1000000) only [Xd,IT,Vo,↓gi,↓gd,tA,au,mb,reduceCtorEq,Nat.reduceEqDiff,Nat.reduceAdd,Nat.reduceSub,Nat.reduceLT,↓reduceIte,aF,BC,↓PC]
def GN (seed:List UInt8) (k:Int):List UInt8:=(yV seed [99,104,97,105,110] (aP k)).take 16
theorem sQ (seed:List UInt8) (k:Int):(GN seed k).length=16:=by simp[GN,xF]
theorem AAd (seed:List UInt8) (k:Int) (hk:seed.length≤64) (hi:kJ k):Fun Tryz.prog aO 134 [.str seed,.int .i64 k] [] 0 (.agg (aB (GN seed k))) [] 0:=by
 refine bT none Xd PO Wn (Nat.le_of_ble_eq_true rfl) (fun η=>by simp only[SV.ren,aC]) ?_
 conv in aJ _ _=>(reduce;simp only[aH,UInt8.reduceOfNat,Int.reduceOfNat,Int.reduceNegSucc])
 rw[aQ]
 unfold GN
 have gi:=mB hi
 have e1:=aS k
 have gd:=Kx (key:=seed) (label:=[99,104,97,105,110]) (p:=aP k) hk (by decide) (by omega)
 have tA:=a9 (aP k)
 have au:=dD (aP k)
 have mb:=bR (aP k)
 generalize aP k=A at *
 have hl:=xF seed [99,104,97,105,110] A
 generalize yV seed [99,104,97,105,110] A=B at *
 have gg:=IQ (s:=B) (by omega)
 have lB:(B.take 16).length=16:=by simp[hl]
 generalize B.take 16=C at *
 have lC:(aB C).length=16:=by rw[aA,lB]
 have tC:=cI lB
 simp (maxSteps:=1000000) only [Xd,IT,Vo,↓gi,↓gd,↓gg,tA,au,mb,lC,tC,reduceCtorEq,Nat.reduceEqDiff,Nat.reduceAdd,Nat.reduceSub,Nat.reduceLT,↓reduceIte,bC,aF,BC,↓PC]
theorem Xh (k h t:Nat) (v:List UInt8) (hk:k≤34) (hh:h≤t) (S7:t≤15) (hv:v.length=16) :
  Fun Tryz.prog aO 133 [.int .i64 (k:Int),.int .i64 (h:Int),.int .i64 (t:Int),.agg (aB v)] [] 0 (.agg (aB (iV k (t - h) h v))) [] 0:=by
 refine bT none Uh D3 T0 (Nat.le_of_ble_eq_true rfl) (fun η=>by simp only[SV.ren,aC]) ?_
 conv in aJ _ _=>(reduce;simp only[aH,seval])
 rw[aQ]
 have hl:(aB v).length=16:=by rw[aA,hv]
 have n1:¬ (k:Int) < 0:=by omega
 have n2:¬ (k:Int) > 34:=by omega
 have n3:¬ (h:Int) < 0:=by omega
 have n4:¬ (h:Int) > 15:=by omega
 have n5:¬ (t:Int) < 0:=by omega
 have n6:¬ (t:Int) > 15:=by omega
 simp only[Uh,FI,n1,n2,n3,n4,n5,n6,BC,↓PC,seval]
 rw[aL]
 have rz:∀ η,SV.renL η wZ=wZ:=fun η=>SV.flatL_ren η wZ rfl
 have rB:∀ η b,SV.renL η (aB b)=aB b:=fun η b=>aC η b
 refine bF D3 (σ:=Nat × List UInt8) (fun x=>[(9,.int .i64 (x.1:Int)),(8,.ptr 1 0),(7,.ptr 0 0),(2,.int .i64 (t:Int)),(0,.int .i64 (k:Int))]) (fun x=>[(1,⟨.own 24,wZ⟩),(0,⟨.own 24,aB x.2⟩)]) (fun _=>2)
  (fun x=>x.1≤t∧x.2.length=16∧iV k (t - x.1) x.1 x.2=iV k (t - h) h v) (fun x=>t - x.1) (h,v) ?_ ⟨hh,hv,rfl⟩ ?_
 ·exact⟨[(0,0),(1,0)],by simp only[rB,rz,BC,seval] <;> rfl,by simp[BC,seval]⟩
 ·rintro⟨j,u⟩ ⟨hj,hu,he⟩
  simp only at hj hu he ⊢
  have hlu:(aB u).length=16:=by rw[aA,hu]
  by_cases hj2:j < t
  ·have c1:(j:Int) < (t:Int):=by omega
   have v4:IntKind.i64.wrap ((j:Int)+1)=((j+1:Nat):Int):=by rw[aD (by omega) (by omega)];omega
   have e1:=aS (k:Int)
   have e2:=aS (j:Int)
   have go:=DY (tag:=4) (a:=aP (k:Int)) (b:=aP (j:Int)) (c:=u) (by omega) (by omega) (by omega)
   have gi1:=mB (n:=(k:Int)) ⟨by omega,by omega⟩
   have gi2:=mB (n:=(j:Int)) ⟨by omega,by omega⟩
   have au0:=dD (aP (k:Int))
   have ZJ:=bR (aP (k:Int))
   have tb0:=a9 (aP (k:Int))
   have au1:=dD (aP (j:Int))
   have mb1:=bR (aP (j:Int))
   have tb1:=a9 (aP (j:Int))
   have tb2:List.take 16 (aB u)=aB u:=List.take_of_length_le (by omega)
   rw[show t - j=(t - (j+1))+1 by omega] at he
   simp only[iV] at he
   have hO:=bK 4 [aP (k:Int),aP (j:Int),u]
   generalize dE 4 [aP (k:Int),aP (j:Int),u]=O at *
   have lO:(aB O).length=16:=by rw[aA,hO]
   have dU:List.drop 16 (aB u)=[]:=List.drop_of_length_le (by omega)
   have fb:=aX u
   simp only[vV,↓gi1,↓gi2,aT,↓go,hlu,hu,fb,c1,v4,au0,ZJ,tb0,au1,mb1,tb1,tb2,lO,dU,oZ,bC,aF,BC,↓PC,seval]
   exact⟨(j+1,O),⟨[(0,0),(1,0)],by simp only[rB,rz,BC,seval],by simp[BC,seval]⟩,⟨by simp only;omega,hO,he⟩,by simp only;omega⟩
  ·obtain rfl:j=t:=by omega
   have c9:¬ (j:Int) < (j:Int):=by omega
   have tb2:List.take 16 (aB u)=aB u:=List.take_of_length_le (by omega)
   simp only[c9,hlu,tb2,bC,BC,↓PC,seval]
   have e0:u=iV k (j - h) h v:=by simpa [iV] using he
   rw[← e0,fN (show (aB u).length=wZ.length by rw[hlu];rfl)]
   exact⟨by decide,by omega,tb2⟩
def jZ (f:Nat→List UInt8) (n:Nat):List UInt8:=((List.range n).map f).flatten
theorem m7 (f:Nat→List UInt8) (n:Nat):jZ f n++f n=jZ f (n+1):=by
 unfold jZ
 rw[List.range_succ,List.map_append,List.flatten_append]
 simp
theorem iQ {f:Nat→List UInt8}:∀ {n:Nat},(∀ k,k < n→(f k).length=16)→(jZ f n).length=16 * n
 | 0,_=>rfl
 | n+1,h=>by
  rw[← m7,List.length_append,iQ (fun k hk=>h k (by omega)),h n (by omega)]
  omega
theorem FL {f:Nat→List UInt8} {n m:Nat} (h:m≤n) (hf:∀ k,k < n→(f k).length=16):(jZ f n).take (16 * m)=jZ f m:=by
 induction n with
 | zero=>obtain rfl:m=0:=by omega
         rfl
 | succ n ih=>
  have hl:=iQ (n:=n) (fun k hk=>hf k (by omega))
  rcases Nat.lt_or_ge m (n+1) with h1|h1
  ·rw[← m7,List.take_append_of_le_length (by omega),ih (by omega) (fun k hk=>hf k (by omega))]
  ·obtain rfl:m=n+1:=by omega
   exact List.take_of_length_le (by rw[iQ hf];exact Nat.le_refl _)
theorem BQ {f:Nat→List UInt8} {n k:Nat} (h:k < n) (hf:∀ k,k < n→(f k).length=16):((jZ f n).drop (16 * k)).take 16=f k:=by
 have h1:=FL (m:=k+1) (by omega) hf
 have h2:=FL (m:=k) (by omega) hf
 have hl:=iQ (n:=k) (fun j hj=>hf j (by omega))
 have:((jZ f n).take (16 * (k+1))).drop (16 * k)=f k:=by
  rw[h1,← m7,List.drop_left' hl]
 rw[List.drop_take] at this
 rw[← this]
 congr 1
 omega
def Dc:List SV→Option SV
 | [.int .i64 (.ofNat k),.int .i64 (.ofNat h),.int .i64 (.ofNat t),.agg cells]=>match rQ cells with
  | some v=>if k≤34∧h≤t∧t≤15∧v.length=16 then some (.agg (aB (iV k (t - h) h v))) else none
  | none=>none
 | _=>none
theorem IV {k t:Nat} {v:List UInt8} (hk:k≤34) (ht:t≤15) (hv:v.length=16):Dc [.int .i64 (k:Int),.int .i64 0,.int .i64 (t:Int),.agg (aB v)]=some (.agg (aB (iV k t 0 v))):=by
 show Dc [.int .i64 (.ofNat k),.int .i64 (.ofNat 0),.int .i64 (.ofNat t),.agg (aB v)]=_
 unfold Dc
 simp only[aT]
 rw[if_pos ⟨hk,Nat.zero_le _,ht,hv⟩]
 rfl
def Dd:List SV→Option SV
 | [.str seed,.int .i64 k]=>if seed.length≤64∧-9223372036854775808≤k∧k≤9223372036854775807 then some (.agg (aB (GN seed k))) else none
 | _=>none
theorem FM {seed:List UInt8} {k:Nat} (h:seed.length≤64) (hk:k≤34):Dd [.str seed,.int .i64 (k:Int)]=some (.agg (aB (GN seed k))):=if_pos ⟨h,by omega,by omega⟩
def Vp:Tab:=⟨[(133,Dc),(134,Dd)],[]⟩
theorem Uq:TabX Tryz.prog aO Vp:=by
 refine⟨fun x h args r hr=>?_,fun x h=>by simp[Vp] at h⟩
 simp only[Vp,List.mem_cons,List.not_mem_nil,or_false] at h
 rcases h with rfl|rfl
 ·simp only at hr
  unfold Dc at hr
  split at hr
  ·split at hr
   ·rename_i v hv
    split at hr
    ·rename_i hc
     cases hr
     rw[b8 hv]
     exact⟨Xh _ _ _ v hc.1 hc.2.1 hc.2.2.1 hc.2.2.2,fun η=>by simp only[SV.renL,SV.ren,aC],fun η=>by simp only[SV.renL,SV.ren,aC]⟩
    ·cases hr
   ·cases hr
  ·cases hr
 ·simp only at hr
  unfold Dd at hr
  split at hr
  ·split at hr
   ·rename_i hc
    cases hr
    exact⟨AAd _ _ hc.1 hc.2,fun η=>rfl,fun η=>by simp only[SV.renL,SV.ren,aC]⟩
   ·cases hr
  ·cases hr
def IW:List (FuncId × GS):=[(76,Bv),(132,BO),(47,vV)]
theorem PW:∀ x∈IW,dQ Tryz.prog aO x.1 x.2:=by
 intro x hx
 simp only[IW,List.mem_cons,List.not_mem_nil,or_false] at hx
 rcases hx with rfl|rfl|rfl
 ·exact CN
 ·exact FG
 ·exact xC
def Xi:bG:=dR IW (gT Vp)
theorem GO:∀ f a m n K,Xi f a m n K→aY Tryz.prog aO f a m n K:=bA PW (cN Uq)
def A3 (seed:List UInt8) (k:Nat):List UInt8:=iV k 15 0 (GN seed (k:Int))
theorem xG (seed:List UInt8) (k:Nat):(A3 seed k).length=16:=xE _ _ _ _ (sQ _ _)
def yW (seed:List UInt8):List UInt8:=dE 5 [jZ (A3 seed) 35]
theorem IX (seed:List UInt8):(yW seed).length=16:=bK _ _
theorem Xj (seed:List UInt8) (R Q:Nat→List UInt8) (gS:∀ k:Nat,k < 35→Dd [.str seed,.int .i64 (k:Int)]=some (.agg (aB (R k))))
  (gA:∀ k:Nat,k < 35→Dc [.int .i64 (k:Int),.int .i64 0,.int .i64 15,.agg (aB (R k))]=some (.agg (aB (Q k)))) (hQ:∀ k,(Q k).length=16) :
  Fun Tryz.prog aO 120 [.str seed] [] 0 (.agg (aB (dE 5 [jZ Q 35]))) [] 0:=by
 refine bT none Xi GO We (Nat.le_of_ble_eq_true rfl) (fun η=>by simp only[SV.ren,aC]) ?_
 conv in aJ _ _=>(reduce;simp only[aH,seval])
 rw[aQ]
 simp only[Xi,IW,Vp,BC,↓PC,seval]
 rw[aL]
 have rz:∀ η,SV.renL η wZ=wZ:=fun η=>SV.flatL_ren η wZ rfl
 refine bF GO (σ:=Nat) (fun k=>[(4,.int .i64 (k:Int)),(3,.str (jZ Q k)),(2,.ptr 0 0),(0,.str seed)]) (fun _=>[(0,⟨.own 24,wZ⟩)]) (fun _=>1)
  (fun k=>k≤35) (fun k=>35 - k) 0 ?_ (Nat.zero_le _) ?_
 ·exact⟨[(0,0)],by simp only[rz,BC,seval] <;> rfl,by simp[jZ,BC,seval]⟩
 ·intro k hk
  have hlk:=iQ (f:=Q) (n:=k) (fun j _=>hQ j)
  by_cases A9:k < 35
  ·have c1:(k:Int) < 35:=by omega
   have v4:IntKind.i64.wrap ((k:Int)+1)=((k+1:Nat):Int):=by rw[aD (by omega) (by omega)];omega
   have gs:=gS k A9
   have ga:=gA k A9
   have hpl:=hQ k
   have hst:=m7 Q k
   have gt:=fE hpl
   have fp:=aX (R k)
   have fe:=aX (Q k)
   simp only[↓gs,↓ga,↓gt,c1,v4,fp,fe,hst,BC,↓PC,seval]
   exact⟨by unfold cH;omega,k+1,⟨[(0,0)],by simp only[rz,BC,seval],by simp[BC,seval]⟩,by omega,by omega⟩
  ·obtain rfl:k=35:=by omega
   generalize jZ Q 35=C at *
   have go:=D7 (tag:=5) (s:=C) (by omega)
   have hO:=bK 5 [C]
   generalize dE 5 [C]=O at *
   have lO:(aB O).length=16:=by rw[aA,hO]
   have tO:=cI hO
   have s1:aF [SV.str []] 0 [SV.str C]=[SV.str C]:=rfl
   have s2:aF wZ 0 (aB O)=aB O:=fN (by rw[lO];rfl)
   simp only[↓go,s1,s2,lO,tO,bC,BC,↓PC,seval]
   exact Nat.le_of_eq rfl
theorem AAe (seed:List UInt8) (hs:seed.length≤64):Fun Tryz.prog aO 120 [.str seed] [] 0 (.agg (aB (yW seed))) [] 0:=
 Xj seed (fun k=>GN seed (k:Int)) (A3 seed) (fun k hk=>FM hs (by omega)) (fun k hk=>IV (t:=15) (by omega) (by omega) (sQ _ _)) (xG seed)
def GP (seed d:List UInt8) (k:Nat):List UInt8:=iV k (tG d k) 0 (GN seed (k:Int))
theorem qX (seed d:List UInt8) (k:Nat):(GP seed d k).length=16:=xE _ _ _ _ (sQ _ _)
def pA (seed d:List UInt8):List UInt8:=jZ (GP seed d) 35
theorem uO (seed d:List UInt8):(pA seed d).length=560:=by unfold pA;rw[iQ (fun k _=>qX seed d k)]
theorem Xk (seed d:List UInt8) (hd:d.length=16) (R Q:Nat→List UInt8) (gS:∀ k:Nat,k < 35→Dd [.str seed,.int .i64 (k:Int)]=some (.agg (aB (R k))))
  (gA:∀ k:Nat,k < 35→Dc [.int .i64 (k:Int),.int .i64 0,.int .i64 (tG d k:Int),.agg (aB (R k))]=some (.agg (aB (Q k)))) (hQ:∀ k,(Q k).length=16) :
  Fun Tryz.prog aO 92 [.str seed,.agg (aB d)] [] 0 (.str (jZ Q 35)) [] 0:=by
 refine bT none Xi GO Zg (Nat.le_of_ble_eq_true rfl) (fun η=>rfl) ?_
 conv in aJ _ _=>(reduce;simp only[aH,seval])
 rw[aQ]
 have hl:(aB d).length=16:=by rw[aA,hd]
 have gd:=FJ hd
 have tb:=cI hd
 simp only[Xi,IW,Vp,↓gd,hl,tb,BC,↓PC,seval]
 rw[aL]
 have rI:∀ η,SV.renL η (d9 (mO d))=d9 (mO d):=fun η=>kG η _
 have dl:=xD d
 refine bF GO (σ:=Nat) (fun k=>[(7,.int .i64 (k:Int)),(6,.str (jZ Q k)),(5,.slc 1 0 1 35 none),(0,.str seed)]) (fun _=>[(1,⟨.own 3,d9 (mO d)⟩)]) (fun _=>2)
  (fun k=>k≤35) (fun k=>35 - k) 0 ?_ (Nat.zero_le _) ?_
 ·exact⟨[(0,0),(1,0)],by simp only[rI,BC,seval],by simp[jZ,BC,seval]⟩
 ·intro k hk
  have hlk:=iQ (f:=Q) (n:=k) (fun j _=>hQ j)
  by_cases A9:k < 35
  ·obtain⟨ht,hg⟩:=o9 d A9
   have gg:=uH hg
   have c1:(k:Int) < 35:=by omega
   have c2:(0:Int)≤(k:Int):=by omega
   have v4:IntKind.i64.wrap ((k:Int)+1)=((k+1:Nat):Int):=by rw[aD (by omega) (by omega)];omega
   have gs:=gS k A9
   have ga:=gA k A9
   have hpl:=hQ k
   have hst:=m7 Q k
   have gt:=fE hpl
   have fp:=aX (R k)
   have fe:=aX (Q k)
   simp only[↓gs,↓ga,↓gt,gg,dl,c1,c2,v4,fp,fe,hst,BC,↓PC,seval]
   exact⟨A9,by unfold cH;omega,k+1,⟨[(0,0),(1,0)],by simp only[rI,BC,seval],by simp[BC,seval]⟩,by omega,by omega⟩
  ·obtain rfl:k=35:=by omega
   simp only[BC,↓PC,seval]
theorem AAf (seed d:List UInt8) (hs:seed.length≤64) (hd:d.length=16):Fun Tryz.prog aO 92 [.str seed,.agg (aB d)] [] 0 (.str (pA seed d)) [] 0:=
 Xk seed d hd (fun k=>GN seed (k:Int)) (GP seed d) (fun k hk=>FM hs (by omega)) (fun k hk=>IV (by omega) (o9 d hk).1 (sQ _ _)) (qX seed d)
def kB (b:List UInt8):Nat:=if fT b 16≠0 then 0 else (cR b).1.toNat
def uP (b:List UInt8):Nat:=if fT b 16≠0 then 0 else (cR b).2.1+16 * (cR b).1.toNat
def rU (b:List UInt8):List UInt8:=if fT b 16≠0 then [] else (b.drop (cR b).2.1).take (16 * (cR b).1.toNat)
def zT (b:List UInt8):SV:=.tup [AN 1 16 (kB b),.int .i64 (uP b:Int),.int .i64 (fT b 16)]
theorem Ij {b:List UInt8} {u i:Nat}:(b.drop u).take (16 * i)++(b.drop (u+16 * i)).take 16=(b.drop u).take (16 * (i+1)):=by
 rw[show 16 * (i+1)=16 * i+16 by omega,List.take_add,List.drop_drop]
theorem f61 (b:List UInt8) (hb:b.length≤2 ^ 36):Fun Tryz.prog tS 100 [.slc 0 0 1 b.length none] [(0,⟨.view,aB b⟩)] 1
  (zT b) (v7 1 24 (aB (rU b)) [] (kB b)) (s9 1 (kB b)):=by
 refine aR none (dR A5 cF) (bA sZ bI) W1 (Nat.le_of_ble_eq_true rfl) (by cases kB b <;> simp[s9]) ?_
 conv in aJ _ _=>(reduce;simp only[aH,UInt8.reduceOfNat,Int.reduceOfNat,Int.reduceNegSucc])
 rw[aQ]
 have hb40:b.length≤2 ^ 40:=by omega
 have fl:=aX b
 have tb:=a9 b
 have g1:A4 vQ [.slc 0 0 1 b.length none,.int .i64 16] [(0,⟨.view,aB b⟩)]=some (eC (vQ b 16),[],1):=yL (s:=16) hb40 (by decide) (by decide)
 by_cases he:fT b 16=0
 ·obtain⟨n,u,hx,h1,h2,h3⟩:=rF he
  have hN:kB b=n:=by unfold kB;rw[he,hx];simp
  have hU:uP b=u+16 * n:=by unfold uP;rw[he,hx];simp
  have hX:rU b=(b.drop u).take (16 * n):=by unfold rU;rw[he,hx];simp
  have hc:vQ b 16=((n:Int),u,0):=by unfold vQ;rw[hx,he]
  have h4:16 * n≤b.length - u:=by have:=Nat.mul_le_mul_left 16 h2;have:=Nat.mul_div_le (b.length - u) 16;omega
  rw[hc] at g1
  unfold zT
  rw[hN,hU,hX,he]
  simp (maxSteps:=1000000) only [A5,↓g1,fl,tb,eC,Int.reduceBNe,reduceCtorEq,Nat.reduceEqDiff,Nat.reduceSub,Nat.reduceLT,↓reduceIte,BC,↓PC]
  rw[aL]
  have rB:∀ η,SV.renL η (aB b)=aB b:=fun η=>aC η b
  refine bF (bA sZ bI) (σ:=Nat) (fun i=>[(19,.int .i64 (i:Int)),(18,.int .i64 (n:Int)),(8,AN 1 16 i),(6,.int .i64 ((u+16 * i:Nat):Int)),(0,.slc 0 0 1 b.length none)])
   (fun i=>v7 1 24 (aB ((b.drop u).take (16 * i))) [(0,⟨.view,aB b⟩)] i) (fun i=>s9 1 i) (fun i=>i≤n) (fun i=>n - i) 0 ?_ (Nat.zero_le _) ?_
  ·exact⟨[(0,0)],by simp only[Nat.mul_zero,rB,Nat.reduceSub,Nat.reduceLT,↓reduceIte,BC],by simp[Nat.reduceEqDiff,↓reduceIte,reduceCtorEq,BC]⟩
  ·intro i hi
   by_cases hin:i < n
   ·have c1:(i:Int) < (n:Int):=by omega
    have v4:IntKind.i64.wrap ((i:Int)+1)=((i+1:Nat):Int):=by rw[aD (by omega) (by omega)];omega
    have w1:IntKind.i64.wrap (((u+16 * i:Nat):Int)+16)=((u+16 * (i+1):Nat):Int):=by rw[aD (by omega) (by omega)];omega
    have b1:(0:Int)≤((u+16 * i:Nat):Int):=by omega
    have b2:((u+16 * i:Nat):Int)≤((u+16 * (i+1):Nat):Int):=by omega
    have b3:u+16 * (i+1)≤b.length:=by omega
    have b4:u+16 * (i+1) - (u+16 * i)=16:=by omega
    have hD:((b.drop (u+16 * i)).take 16).length=16:=by simp;omega
    have tD:List.take 16 (List.drop (u+16 * i) (aB b))=aB ((b.drop (u+16 * i)).take 16):=by simp[aB,List.map_take,List.map_drop]
    have hst:=Ij (b:=b) (u:=u) (i:=i)
    have lX:((b.drop u).take (16 * i)).length=16 * i:=by simp;omega
    have lX1:((b.drop u).take (16 * (i+1))).length=16 * (i+1):=by simp;omega
    generalize hDe:(b.drop (u+16 * i)).take 16=D at *
    have lD:(aB D).length=16:=by rw[aA,hD]
    have ttD:List.take 16 (aB D)=aB D:=List.take_of_length_le (by omega)
    have ap:aB ((b.drop u).take (16 * i))++aB D=aB ((b.drop u).take (16 * (i+1))):=by rw[cE,hst]
    have tX:List.take (i * 16) (aB ((b.drop u).take (16 * i)))=aB ((b.drop u).take (16 * i)):=List.take_of_length_le (by rw[aA,lX];omega)
    rcases Nat.eq_zero_or_pos i with h0|h0
    ·have ap0:aB D=aB ((b.drop u).take (16 * (i+1))):=by rw[← hst,h0];simp
     rw[lJ h0,jU h0,lM h0]
     have b5:u+16 * i < b.length:=by omega
     simp (maxSteps:=1000000) only [c1,v4,w1,b1,b2,b4,tD,lD,ttD,reduceCtorEq,Nat.reduceEqDiff,Nat.reduceAdd,Nat.reduceMul,Nat.reduceLT,↓reduceIte,aF,BC,↓PC]
     refine⟨by omega,b5,by omega,by omega,by omega,i+1,?_,by omega,by omega⟩
     rw[eL (Nat.succ_pos i),eE (Nat.succ_pos i),eO (Nat.succ_pos i),← ap0]
     exact⟨[(0,0),(2,0)],by simp[rB,Nat.reduceAdd,Nat.reduceLeDiff,↓reduceIte,reduceCtorEq,BC],by simp[h0,Nat.reduceAdd,Nat.reduceEqDiff,Nat.reduceLeDiff,↓reduceIte,reduceCtorEq,BC]⟩
    ·rw[eL h0,eE h0,eO h0]
     simp (maxSteps:=1000000) only [c1,v4,w1,b1,b2,b4,tD,lD,ttD,tX,lX,ap,reduceCtorEq,Nat.reduceEqDiff,Nat.reduceAdd,Nat.reduceMul,Nat.reduceLT,↓reduceIte,aF,BC,↓PC]
     refine⟨by omega,by omega,by omega,by omega,by omega,by omega,i+1,?_,by omega,by omega⟩
     rw[eL (Nat.succ_pos i),eE (Nat.succ_pos i),eO (Nat.succ_pos i)]
     exact⟨[(0,0),(3,0)],by simp[rB,Nat.reduceAdd,Nat.reduceLeDiff,↓reduceIte,reduceCtorEq,BC],by simp[Nat.reduceAdd,Nat.reduceEqDiff,Nat.reduceLeDiff,↓reduceIte,reduceCtorEq,BC]⟩
   ·obtain rfl:i=n:=by omega
    have c3:decide ((i:Int) < (i:Int))=false:=by simp
    rcases Nat.eq_zero_or_pos i with h0|h0
    ·simp only[lJ h0,jU h0,lM h0]
     simp (maxSteps:=1000000) only [c3,reduceCtorEq,Nat.reduceEqDiff,↓reduceIte,BC,↓PC]
     exact⟨[(0,0)],by simp[List.length_cons,List.length_nil,Nat.zero_add],by simp[aK,aM,aG,b7,BB]⟩
    ·simp only[eL h0,eE h0,eO h0]
     simp (maxSteps:=1000000) only [c3,reduceCtorEq,Nat.reduceEqDiff,Nat.reduceAdd,↓reduceIte,BC,↓PC]
     exact⟨[(0,0),(1,0)],by simp[Nat.reduceAdd,Nat.reduceLeDiff,↓reduceIte,BC],by simp[Nat.reduceAdd,Nat.reduceLeDiff,BB]⟩
 ·have hN:kB b=0:=by unfold kB;rw[if_pos he]
  have hU:uP b=0:=by unfold uP;rw[if_pos he]
  have hX:rU b=[]:=by unfold rU;rw[if_pos he]
  have he2:(fT b 16 != 0)=true:=by simpa using he
  unfold zT
  rw[hN,hU,hX]
  have hc:vQ b 16=((cR b).1,(cR b).2.1,fT b 16):=rfl
  rw[hc] at g1
  simp (maxSteps:=1000000) only [A5,↓g1,fl,tb,eC,he2,reduceCtorEq,Nat.reduceEqDiff,Nat.reduceSub,Nat.reduceLT,↓reduceIte,BC,↓PC]
  exact⟨[(0,0)],by simp[List.length_cons,List.length_nil,Nat.zero_add],by simp[aK,aM,aG,b7,BB]⟩
theorem FQ {X:List UInt8} {i:Nat} (hX:16≤X.length) (h:i≤16):(yH X i).length=16:=by simp[yH,aA];omega
theorem f65 (b:List UInt8) (hb:b.length≤2 ^ 36):Fun Tryz.prog tS 104 [.slc 0 0 1 b.length none] [(0,⟨.view,aB b⟩)] 1
  (zT b) (v7 1 24 (aB (rU b)) [] (kB b)) (s9 1 (kB b)):=by
 refine aR none (dR A5 cF) (bA sZ bI) W4 (Nat.le_of_ble_eq_true rfl) (by cases kB b <;> simp[s9]) ?_
 conv in aJ _ _=>(reduce;simp only[aH,UInt8.reduceOfNat,Int.reduceOfNat,Int.reduceNegSucc])
 rw[aQ]
 have hb40:b.length≤2 ^ 40:=by omega
 have fl:=aX b
 have tb:=a9 b
 have g1:A4 rT [.slc 0 0 1 b.length none,.int .i64 16] [(0,⟨.view,aB b⟩)]=some (eC (rT b 16),[],1):=yL (s:=16) hb40 (by decide) (by decide)
 by_cases he:fT b 16=0
 ·obtain⟨n,u,hx,h1,h2,h3⟩:=rF he
  have hN:kB b=n:=by unfold kB;rw[he,hx];simp
  have hU:uP b=u+16 * n:=by unfold uP;rw[he,hx];simp
  have hX:rU b=(b.drop u).take (16 * n):=by unfold rU;rw[he,hx];simp
  have hc:rT b 16=((n:Int),u,0):=by unfold rT;rw[hx,he];simp
  have h4:16 * n≤b.length - u:=by have:=Nat.mul_le_mul_left 16 h2;have:=Nat.mul_div_le (b.length - u) 16;omega
  rw[hc] at g1
  unfold zT
  rw[hN,hU,hX,he]
  simp (maxSteps:=1000000) only [A5,↓g1,fl,tb,eC,Int.reduceBNe,reduceCtorEq,Nat.reduceEqDiff,Nat.reduceSub,Nat.reduceLT,↓reduceIte,BC,↓PC]
  rw[aL]
  have rB:∀ η,SV.renL η (aB b)=aB b:=fun η=>aC η b
  have rC:∀ η X i,SV.renL η (yH X i)=yH X i:=fun η X i=>GH η X i
  refine bF (bA sZ bI) (σ:=Nat) (fun i=>[(9,.int .i64 (i:Int)),(8,AN 1 16 i),(6,.int .i64 ((u+16 * i:Nat):Int)),(5,.int .i64 (n:Int)),(0,.slc 0 0 1 b.length none)])
   (fun i=>v7 1 24 (aB ((b.drop u).take (16 * i))) [(0,⟨.view,aB b⟩)] i) (fun i=>s9 1 i) (fun i=>i≤n) (fun i=>n - i) 0 ?_ (Nat.zero_le _) ?_
  ·exact⟨[(0,0)],by simp only[Nat.mul_zero,rB,Nat.reduceSub,Nat.reduceLT,↓reduceIte,BC],by simp[Nat.reduceEqDiff,↓reduceIte,reduceCtorEq,BC]⟩
  ·intro i hi
   by_cases hin:i < n
   ·have c1:(i:Int) < (n:Int):=by omega
    have v4:IntKind.i64.wrap ((i:Int)+1)=((i+1:Nat):Int):=by rw[aD (by omega) (by omega)];omega
    have w1:IntKind.i64.wrap (((u+16 * i:Nat):Int)+16)=((u+16 * (i+1):Nat):Int):=by rw[aD (by omega) (by omega)];omega
    have hDl:16≤(b.drop (u+16 * i)).length:=by simp;omega
    have hD:((b.drop (u+16 * i)).take 16).length=16:=by simp;omega
    have hst:=Ij (b:=b) (u:=u) (i:=i)
    have lX:((b.drop u).take (16 * i)).length=16 * i:=by simp;omega
    generalize hDe:(b.drop (u+16 * i)).take 16=D at *
    have lD:(aB D).length=16:=by rw[aA,hD]
    have ttD:List.take 16 (aB D)=aB D:=List.take_of_length_le (by omega)
    have ap:aB ((b.drop u).take (16 * i))++aB D=aB ((b.drop u).take (16 * (i+1))):=by rw[cE,hst]
    have tX:List.take (i * 16) (aB ((b.drop u).take (16 * i)))=aB ((b.drop u).take (16 * i)):=List.take_of_length_le (by rw[aA,lX];omega)
    rcases Nat.eq_zero_or_pos i with h0|h0
    ·have ap0:aB D=aB ((b.drop u).take (16 * (i+1))):=by rw[← hst,h0];simp
     simp only[lJ h0,jU h0,lM h0]
     simp (maxSteps:=1000000) only [c1,reduceCtorEq,Nat.reduceEqDiff,Nat.reduceAdd,↓reduceIte,BC,↓PC]
     rw[aL]
     refine bF (bA sZ bI) (σ:=Nat) (fun j=>[(11,.int .i64 (j:Int)),(10,.ptr 1 0),(9,.int .i64 (i:Int)),(8,.val (.slice none 0 0)),(6,.int .i64 ((u+16 * i:Nat):Int)),(5,.int .i64 (n:Int)),(0,.slc 0 0 1 b.length none)])
      (fun j=>[(1,⟨.own 24,yH (b.drop (u+16 * i)) j⟩),(0,⟨.view,aB b⟩)]) (fun _=>2) (fun j=>j≤16) (fun j=>16 - j) 0 ?_ (Nat.zero_le _) ?_
     ·exact⟨[(0,0),(1,0)],by simp only[rB,rC,Nat.reduceAdd,Nat.reduceSub,Nat.reduceLT,Nat.reduceLeDiff,↓reduceIte,BC] <;> rfl,by simp[Nat.reduceAdd,Nat.reduceEqDiff,Nat.reduceLeDiff,↓reduceIte,reduceCtorEq,BC]⟩
     ·intro j hj
      have lC:=FQ (X:=b.drop (u+16 * i)) hDl hj
      by_cases uT:j < 16
      ·obtain⟨x,hx⟩:∃ x,b[u+16 * i+j]?=some x:=⟨b[u+16 * i+j]'(by omega),by rw[List.getElem?_eq_getElem]⟩
       have gx:=fL hx
       have hx':(b.drop (u+16 * i))[j]?=some x:=by rw[List.getElem?_drop];exact hx
       have d1:(j:Int) < 16:=by omega
       have d2:(0:Int)≤(j:Int):=by omega
       have d4:IntKind.i64.wrap ((j:Int)+1)=((j+1:Nat):Int):=by rw[aD (by omega) (by omega)];omega
       have d5:IntKind.i64.wrap (((u+16 * i:Nat):Int)+(j:Int))=((u+16 * i+j:Nat):Int):=by rw[aD (by omega) (by omega)];omega
       have d6:(0:Int)≤((u+16 * i+j:Nat):Int):=by omega
       have d7:((u+16 * i+j:Nat):Int) < (b.length:Int):=by omega
       have op:=CM hx' uT
       simp (maxSteps:=1000000) only [d1,d2,d4,d5,d6,d7,gx,lC,op,reduceCtorEq,Nat.reduceEqDiff,Nat.reduceLeDiff,↓reduceIte,bC,BC,↓PC]
       exact⟨by omega,by omega,j+1,⟨[(0,0),(1,0)],by simp only[rB,rC,Nat.reduceAdd,Nat.reduceSub,Nat.reduceLT,Nat.reduceLeDiff,↓reduceIte,BC],by simp[Nat.reduceAdd,Nat.reduceEqDiff,Nat.reduceLeDiff,↓reduceIte,reduceCtorEq,BC]⟩,by omega,by omega⟩
      ·obtain rfl:j=16:=by omega
       have tC:List.take 16 (yH (b.drop (u+16 * i)) 16)=aB D:=by rw[List.take_of_length_le (by omega),CL,hDe]
       simp (maxSteps:=1000000) only [v4,w1,tC,lC,lD,ttD,reduceCtorEq,Nat.reduceEqDiff,Nat.reduceAdd,Nat.reduceMul,Int.reduceLT,↓reduceIte,aF,BC,↓PC]
       refine⟨by omega,by omega,i+1,?_,by omega,by omega⟩
       rw[eL (Nat.succ_pos i),eE (Nat.succ_pos i),eO (Nat.succ_pos i),← ap0]
       exact⟨[(0,0),(3,0)],by simp[rB,Nat.reduceAdd,Nat.reduceLeDiff,↓reduceIte,reduceCtorEq,BC],by simp[h0,Nat.reduceAdd,Nat.reduceEqDiff,Nat.reduceLeDiff,↓reduceIte,reduceCtorEq,BC]⟩
    ·skip
     simp only[eL h0,eE h0,eO h0]
     simp (maxSteps:=1000000) only [c1,reduceCtorEq,Nat.reduceEqDiff,Nat.reduceAdd,↓reduceIte,BC,↓PC]
     rw[aL]
     refine bF (bA sZ bI) (σ:=Nat) (fun j=>[(11,.int .i64 (j:Int)),(10,.ptr 2 0),(9,.int .i64 (i:Int)),(8,.slc 1 0 16 i none),(6,.int .i64 ((u+16 * i:Nat):Int)),(5,.int .i64 (n:Int)),(0,.slc 0 0 1 b.length none)])
      (fun j=>[(2,⟨.own 24,yH (b.drop (u+16 * i)) j⟩),(1,⟨.own 24,aB ((b.drop u).take (16 * i))⟩),(0,⟨.view,aB b⟩)]) (fun _=>3) (fun j=>j≤16) (fun j=>16 - j) 0 ?_ (Nat.zero_le _) ?_
     ·exact⟨[(0,0),(1,0),(2,0)],by simp only[rB,rC,Nat.reduceAdd,Nat.reduceSub,Nat.reduceLT,Nat.reduceLeDiff,↓reduceIte,reduceCtorEq,BC] <;> rfl,by simp[Nat.reduceAdd,Nat.reduceEqDiff,Nat.reduceLT,Nat.reduceLeDiff,↓reduceIte,reduceCtorEq,BC]⟩
     ·intro j hj
      have lC:=FQ (X:=b.drop (u+16 * i)) hDl hj
      by_cases uT:j < 16
      ·obtain⟨x,hx⟩:∃ x,b[u+16 * i+j]?=some x:=⟨b[u+16 * i+j]'(by omega),by rw[List.getElem?_eq_getElem]⟩
       have gx:=fL hx
       have hx':(b.drop (u+16 * i))[j]?=some x:=by rw[List.getElem?_drop];exact hx
       have d1:(j:Int) < 16:=by omega
       have d2:(0:Int)≤(j:Int):=by omega
       have d4:IntKind.i64.wrap ((j:Int)+1)=((j+1:Nat):Int):=by rw[aD (by omega) (by omega)];omega
       have d5:IntKind.i64.wrap (((u+16 * i:Nat):Int)+(j:Int))=((u+16 * i+j:Nat):Int):=by rw[aD (by omega) (by omega)];omega
       have d6:(0:Int)≤((u+16 * i+j:Nat):Int):=by omega
       have d7:((u+16 * i+j:Nat):Int) < (b.length:Int):=by omega
       have op:=CM hx' uT
       simp (maxSteps:=1000000) only [d1,d2,d4,d5,d6,d7,gx,lC,op,reduceCtorEq,Nat.reduceEqDiff,Nat.reduceLeDiff,↓reduceIte,bC,BC,↓PC]
       exact⟨by omega,by omega,j+1,⟨[(0,0),(1,0),(2,0)],by simp only[rB,rC,Nat.reduceAdd,Nat.reduceSub,Nat.reduceLT,Nat.reduceLeDiff,↓reduceIte,reduceCtorEq,BC],by simp[Nat.reduceAdd,Nat.reduceEqDiff,Nat.reduceLT,Nat.reduceLeDiff,↓reduceIte,reduceCtorEq,BC]⟩,by omega,by omega⟩
      ·obtain rfl:j=16:=by omega
       have tC:List.take 16 (yH (b.drop (u+16 * i)) 16)=aB D:=by rw[List.take_of_length_le (by omega),CL,hDe]
       simp (maxSteps:=1000000) only [v4,w1,tC,lC,lD,ttD,tX,lX,ap,reduceCtorEq,Nat.reduceEqDiff,Nat.reduceAdd,Nat.reduceMul,Int.reduceLT,↓reduceIte,aF,BC,↓PC]
       refine⟨by omega,by omega,by omega,i+1,?_,by omega,by omega⟩
       rw[eL (Nat.succ_pos i),eE (Nat.succ_pos i),eO (Nat.succ_pos i)]
       exact⟨[(0,0),(4,0)],by simp[rB,Nat.reduceAdd,Nat.reduceLeDiff,↓reduceIte,reduceCtorEq,BC],by simp[Nat.reduceAdd,Nat.reduceEqDiff,Nat.reduceLeDiff,↓reduceIte,reduceCtorEq,BC]⟩
   ·obtain rfl:i=n:=by omega
    have c3:decide ((i:Int) < (i:Int))=false:=by simp
    rcases Nat.eq_zero_or_pos i with h0|h0
    ·simp only[lJ h0,jU h0,lM h0]
     simp (maxSteps:=1000000) only [c3,reduceCtorEq,Nat.reduceEqDiff,↓reduceIte,BC,↓PC]
     exact⟨[(0,0)],by simp[List.length_cons,List.length_nil,Nat.zero_add],by simp[aK,aM,aG,b7,BB]⟩
    ·simp only[eL h0,eE h0,eO h0]
     simp (maxSteps:=1000000) only [c3,reduceCtorEq,Nat.reduceEqDiff,Nat.reduceAdd,↓reduceIte,BC,↓PC]
     exact⟨[(0,0),(1,0)],by simp[Nat.reduceAdd,Nat.reduceLeDiff,↓reduceIte,BC],by simp[Nat.reduceAdd,Nat.reduceLeDiff,BB]⟩
 ·have hN:kB b=0:=by unfold kB;rw[if_pos he]
  have hU:uP b=0:=by unfold uP;rw[if_pos he]
  have hX:rU b=[]:=by unfold rU;rw[if_pos he]
  have he2:(fT b 16 != 0)=true:=by simpa using he
  unfold zT
  rw[hN,hU,hX]
  have hc:rT b 16=(0,0,fT b 16):=by unfold rT;rw[if_pos he]
  rw[hc] at g1
  simp (maxSteps:=1000000) only [A5,↓g1,fl,tb,eC,he2,reduceCtorEq,Nat.reduceEqDiff,Nat.reduceSub,Nat.reduceLT,↓reduceIte,BC,↓PC]
  exact⟨[(0,0)],by simp[List.length_cons,List.length_nil,Nat.zero_add],by simp[aK,aM,aG,b7,BB]⟩
def Ik:GS
 | [.slc 0 0 1 len none],[(0,⟨.view,cells⟩)]=>match rQ cells with
  | some b=>if len=b.length∧b.length≤2 ^ 36 then some (zT b,v7 1 24 (aB (rU b)) [] (kB b),s9 1 (kB b)) else none
  | none=>none
 | _,_=>none
theorem CS {b:List UInt8} (h:b.length≤2 ^ 36):Ik [.slc 0 0 1 b.length none] [(0,⟨.view,aB b⟩)]=some (zT b,v7 1 24 (aB (rU b)) [] (kB b),s9 1 (kB b)):=by
 unfold Ik
 simp only[aT]
 rw[if_pos ⟨trivial,h⟩]
theorem LG {f:FuncId} (H:∀ b:List UInt8,b.length≤2 ^ 36→Fun Tryz.prog tS f [.slc 0 0 1 b.length none] [(0,⟨.view,aB b⟩)] 1 (zT b) (v7 1 24 (aB (rU b)) [] (kB b)) (s9 1 (kB b))):dQ Tryz.prog tS f Ik:=by
 intro a0 m0 r m1 n1 h
 unfold Ik at h
 split at h
 ·split at h
  ·rename_i b hb
   split at h
   ·rename_i hc
    cases h
    obtain⟨rfl,h2⟩:=hc
    rw[b8 hb]
    refine⟨H b h2,?_⟩
    rcases Nat.eq_zero_or_pos (kB b) with h0|h0
    ·rw[jU h0];simp[dA]
    ·rw[eE h0];simp[dA]
   ·cases h
  ·cases h
 ·cases h
theorem VJ:dQ Tryz.prog tS 100 Ik:=LG f61
theorem VK:dQ Tryz.prog tS 104 Ik:=LG f65
end Go.Proofs.YtmhkkalbijbplaaGreatDoor
