/- The proof, part Vh: WirA, WirB, WirC, WirD, WirE, WirF, PlaA, PlaB. -/
import Derived.Test.YtmhkkalbijbplaaGreatDoorVf
set_option linter.unusedSimpArgs false
set_option linter.unusedVariables false
set_option maxRecDepth 100000
set_option maxHeartbeats 16000000
namespace Go.Proofs.YtmhkkalbijbplaaGreatDoor
open Go Go.Sx
variable {tS:List (Nat × List SV)}
def DN (m:Int) (i:Nat):Int:=m.fdiv (2 ^ (min (8 * i) IntKind.u64.bits))
def AT (m:Int):Nat→Nat
 | 0=>0
 | k+1=>if DN m k > 0 then k+1 else AT m k
theorem Kd (m:Int):∀ k,AT m k≤k
 | 0=>Nat.le_refl _
 | k+1=>by unfold AT;split;exact Nat.le_refl _;exact Nat.le_succ_of_le (Kd m k)
def nP (m f:Int):Nat→List UInt8
 | 0=>[]
 | i+1=>y0 (IntKind.u8.wrap (DN m i)) f :: nP m f i
theorem wY (m f:Int):∀ i,(nP m f i).length=i
 | 0=>rfl
 | i+1=>by simp[nP,wY m f i]
def DO (f:Int) (k:Nat):UInt8:=y0 (IntKind.u8.wrap (128+(k:Int))) f
def DP (n:Int):Int:=if n < 0 then dL .xor .u64 (if IntKind.u64.signed then -1 else IntKind.u64.max) (IntKind.u64.wrap n) else IntKind.u64.wrap n
def Bu (n:Int):Int:=if n < 0 then 255 else 0
def aP (n:Int):List UInt8:=DO (Bu n) (AT (DP n) 8) :: nP (DP n) (Bu n) (AT (DP n) 8)
theorem aS (n:Int):(aP n).length≤9:=by
 simp only[aP,List.length_cons,wY]
 have:=Kd (DP n) 8
 omega
def rB (l:List UInt8) (i:Nat):SV:=.slc i 0 1 l.length none
theorem f34 (n:Int):Fun Tryz.prog tS 45 [.int .i64 n] [] 0 (.slc 0 0 1 (aP n).length none) [(0,⟨.own 5,aB (aP n)⟩)] 1:=by
 refine aR none cF bI ZX (Nat.le_of_ble_eq_true rfl) (Nat.zero_le _) ?_
 conv in aJ _ _=>(reduce;simp only[aH,UInt8.reduceOfNat,Int.reduceOfNat,Int.reduceNegSucc])
 rw[aQ]
 have hlen:=aS n
 have hren:=fun η b=>aC η b
 have key:(dL .xor .u64 (if IntKind.u64.signed then -1 else IntKind.u64.max) (IntKind.u64.wrap n)=DP n∧(255:Int)=Bu n∧n < 0)∨(IntKind.u64.wrap n=DP n∧(0:Int)=Bu n∧¬ n < 0):=by
  by_cases hn:n < 0
  ·left;simp only[DP,Bu,hn,if_true];trivial
  ·right;simp only[DP,Bu,hn,if_false];trivial
 rcases key with⟨k1,k2,hn⟩|⟨k1,k2,hn⟩
 all_goals
  simp (maxSteps:=1000000) only [hn,k1,reduceCtorEq,Nat.reduceEqDiff,Int.reduceNeg,↓reduceIte,BC,↓PC]
  generalize hm:DP n=m at *
  generalize hf:Bu n=f at *
  rw[aL]
  refine bF bI (σ:=Nat) (fun k=>[(5,.int .i64 (k:Int)),(4,.int .u8 f),(3,.int .u64 m)]) (fun _=>[]) (fun _=>0)
   (fun k=>k≤8∧AT m k=AT m 8) (fun k=>k) 8 ⟨[],by simp[BC],by simp[← k2,Nat.reduceEqDiff,↓reduceIte,BC]⟩ ⟨Nat.le_refl _,rfl⟩ ?_
  rintro k ⟨hk8,hk⟩
  have step:(k=0∨(0 < k∧DN m (k - 1) > 0))∨(0 < k∧¬ DN m (k - 1) > 0):=by
   by_cases h0:k=0
   ·exact .inl (.inl h0)
   ·by_cases h1:DN m (k - 1) > 0
    ·exact .inl (.inr ⟨by omega,h1⟩)
    ·exact .inr ⟨by omega,h1⟩
  have hI:DO f (AT m 8) :: nP m f (AT m 8)=aP n:=by unfold aP;rw[hm,hf]
  have w3:0 < k→IntKind.i64.wrap (8 * ((k:Int) - 1))=((8 * (k - 1):Nat):Int):=fun h=>by rw[aD (by omega) (by omega)];omega
  have w1:IntKind.i64.wrap (128+(k:Int))=128+(k:Int):=aD (by omega) (by omega)
  have w2:IntKind.i64.wrap ((k:Int) - 1)=(k:Int) - 1:=aD (by omega) (by omega)
  rcases step with hx|⟨h0,h1⟩
  ·have hkK:AT m 8=k:=by
    rw[← hk]
    rcases hx with rfl|⟨h0,h1⟩
    ·rfl
    ·obtain⟨j,rfl⟩:∃ j,k=j+1:=⟨k - 1,by omega⟩
     simp only[Nat.add_sub_cancel] at h1
     unfold AT
     rw[if_pos h1]
   rw[hkK] at hI
   have hb:SV.int .u8 (dL .xor .u8 (IntKind.u8.wrap (128+(k:Int))) f)=SV.byte (DO f k):=He _ _
   rcases hx with h0|⟨h0,h1⟩
   case' inl=>
    have g0:¬ (k:Int) > 0:=by omega
    simp (maxSteps:=1000000) only [w1,w2,g0,Nat.reduceEqDiff,↓reduceIte,aF,BC,↓PC]
   case' inr=>
    have g0:(k:Int) > 0:=by omega
    have g1:(0:Int)≤((8 * (k - 1):Nat):Int):=by omega
    have g2:m.fdiv (2 ^ (min (8 * (k - 1)) IntKind.u64.bits)) > 0:=h1
    simp (maxSteps:=1000000) only [w1,w2,w3 h0,g0,g1,g2,reduceCtorEq,Nat.reduceEqDiff,↓reduceIte,aF,BC,↓PC]
   all_goals
    rw[aL]
    refine bF bI (σ:=Nat × List UInt8) (fun s=>[(7,.int .i64 ((s.1:Int) - 1)),(6,.slc 0 0 1 s.2.length none),(4,.int .u8 f),(3,.int .u64 m)])
     (fun s=>[(0,⟨.own 5,aB s.2⟩)]) (fun _=>1) (fun s=>s.1≤k∧s.2++nP m f s.1=aP n) (fun s=>s.1) (k,[DO f k]) ⟨[(0,0)],by simp[hb,↓reduceIte,BC],by simp[Nat.reduceEqDiff,↓reduceIte,BC]⟩ ⟨Nat.le_refl _,hI⟩ ?_
    rintro⟨i,pre⟩ ⟨hi,hpre⟩
    simp only at hi hpre
    have v2:IntKind.i64.wrap ((i:Int) - 1 - 1)=(i:Int) - 1 - 1:=aD (by omega) (by omega)
    have hl:=congrArg List.length hpre
    simp only[List.length_append,wY] at hl
    by_cases hi0:i=0
    ·have q0:¬ (i:Int) - 1 ≥ 0:=by omega
     subst hi0
     simp only[nP,List.append_nil] at hpre
     subst hpre
     simp (maxSteps:=1000000) only [Int.reduceGE,Nat.reduceEqDiff,Int.reduceSub,Int.reduceNeg,↓reduceIte,BC,↓PC]
     exact⟨[(0,0)],by simp[↓reduceIte,BC],by simp[bB,SV.ren,BB]⟩
    ·have q0:(i:Int) - 1 ≥ 0:=by omega
     have v3:IntKind.i64.wrap (8 * ((i:Int) - 1))=((8 * (i - 1):Nat):Int):=by rw[aD (by omega) (by omega)];omega
     have q1:(0:Int)≤((8 * (i - 1):Nat):Int):=by omega
     have hb2:SV.int .u8 (dL .xor .u8 (IntKind.u8.wrap (m.fdiv (2 ^ (min (8 * (i - 1)) IntKind.u64.bits)))) f)=SV.byte (y0 (IntKind.u8.wrap (DN m (i - 1))) f):=He _ _
     simp (maxSteps:=1000000) only [v2,v3,q0,q1,reduceCtorEq,Nat.reduceEqDiff,Nat.reduceAdd,↓reduceIte,aF,BC,↓PC]
     rw[hb2,iT]
     have hc:nP m f i=y0 (IntKind.u8.wrap (DN m (i - 1))) f :: nP m f (i - 1):=by
      obtain⟨j,rfl⟩:∃ j,i=j+1:=⟨i - 1,by omega⟩
      rfl
     rw[hc,← List.singleton_append,← List.append_assoc] at hpre
     have hci:((i - 1:Nat):Int)=(i:Int) - 1:=by omega
     exact⟨by omega,by omega,(i - 1,_),⟨[(2,0)],by simp[↓reduceIte,BC],by simp[hci,Nat.reduceEqDiff,↓reduceIte,BC]⟩,⟨by omega,hpre⟩,by simp only;omega⟩
  ·have g0:(k:Int) > 0:=by omega
   have w2:IntKind.i64.wrap ((k:Int) - 1)=((k - 1:Nat):Int):=by rw[w2];omega
   have w3:IntKind.i64.wrap (8 * ((k - 1:Nat):Int))=((8 * (k - 1):Nat):Int):=by rw[aD (by omega) (by omega)];omega
   have g1:(0:Int)≤((8 * (k - 1):Nat):Int):=by omega
   have g2:¬ m.fdiv (2 ^ (min (8 * (k - 1)) IntKind.u64.bits)) > 0:=h1
   simp (maxSteps:=1000000) only [w2,w3,g0,g1,g2,Nat.reduceEqDiff,↓reduceIte,BC,↓PC]
   refine⟨k - 1,⟨[],by simp[BC],by simp[Nat.reduceEqDiff,↓reduceIte,BC]⟩,⟨by omega,?_⟩,by omega⟩
   rw[← hk]
   obtain⟨j,rfl⟩:∃ j,k=j+1:=⟨k - 1,by omega⟩
   simp only[Nat.add_sub_cancel] at h1 ⊢
   rw[AT,if_neg h1]
def EQ:GS
 | [.int .i64 n],[]=>some (.slc 0 0 1 (aP n).length none,[(0,⟨.own 5,aB (aP n)⟩)],1)
 | _,_=>none
theorem Ke:dQ Tryz.prog tS 45 EQ:=by
 intro a0 m0 r m1 n1 h
 unfold EQ at h
 split at h
 ·cases h;exact⟨f34 _,by simp[dA]⟩
 ·cases h
def MV:List (FuncId × GS):=[(45,EQ)]
theorem Fz:∀ x∈MV,dQ Tryz.prog tS x.1 x.2:=by
 intro x hx
 simp only[MV,List.mem_cons,List.not_mem_nil,or_false] at hx
 rcases hx with rfl
 exact Ke
def vJ:List Int→List UInt8
 | []=>[]
 | x :: l=>aP x++vJ l
theorem Hu:∀ l,(vJ l).length≤9 * l.length
 | []=>Nat.le_refl _
 | x :: l=>by
  have:=Hu l
  have:=aS x
  simp only[vJ,List.length_append,List.length_cons];omega
def i8 (l:List Int):List UInt8:=aP l.length++vJ l
theorem f31 (l:List Int) (hl:l.length≤1000) (cap:Option Nat) :
  Fun Tryz.prog tS 51 [.slc 0 0 1 l.length cap] [(0,⟨.view,d9 l⟩)] 1 (.slc 1 0 1 (i8 l).length none) [(1,⟨.own 5,aB (i8 l)⟩)] 2:=by
 refine aR none (dR MV cF) (bA Fz bI) Z2 (Nat.le_of_ble_eq_true rfl) (by decide) ?_
 conv in aJ _ _=>(reduce;simp only[aH,UInt8.reduceOfNat,Int.reduceOfNat,Int.reduceNegSucc])
 rw[aQ]
 have hL:=Hu l
 have hI:=aS l.length
 have hT:(i8 l).length≤9 * (l.length+1):=by unfold i8;simp;omega
 simp (maxSteps:=1000000) only [MV,EQ,reduceCtorEq,Nat.reduceEqDiff,Nat.reduceAdd,↓reduceIte,BC,↓PC]
 rw[aL]
 refine bF (bA Fz bI) (σ:=Nat × List UInt8) (fun s=>[(11,.int .i64 (s.1:Int)),(10,.int .i64 (l.length:Int)),(9,.slc 0 0 1 l.length cap),(3,.slc 1 0 1 s.2.length none)])
  (fun s=>[(1,⟨.own 5,aB s.2⟩),(0,⟨.view,d9 l⟩)]) (fun _=>2) (fun s=>s.1≤l.length∧s.2++vJ (l.drop s.1)=i8 l) (fun s=>l.length - s.1) (0,aP l.length) ?_ ⟨Nat.zero_le _,rfl⟩ ?_
 ·exact⟨[(0,0),(1,0)],by simp[Nat.reduceAdd,Nat.reduceLeDiff,↓reduceIte,BC],by simp[Nat.reduceAdd,Nat.reduceEqDiff,Nat.reduceLeDiff,↓reduceIte,BC]⟩
 ·rintro⟨i,pre⟩ ⟨hi,hpre⟩
  simp only at hi hpre
  have hlen:=congrArg List.length hpre
  simp only[List.length_append] at hlen
  by_cases h:i < l.length
  ·have c1:(i:Int) < (l.length:Int):=by omega
   have c2:(0:Int)≤(i:Int):=by omega
   have wi:IntKind.i64.wrap ((i:Int)+1)=((i+1:Nat):Int):=by rw[aD (by omega) (by omega)];omega
   obtain⟨x,hx⟩:∃ x,l[i]?=some x:=⟨_,List.getElem?_eq_getElem h⟩
   have hd:l.drop i=x :: l.drop (i+1):=by
    rw[List.drop_eq_getElem_cons h]
    rw[List.getElem?_eq_getElem h] at hx;cases hx;rfl
   rw[hd] at hpre
   simp only[vJ,← List.append_assoc] at hpre
   have hlen2:=congrArg List.length hpre
   simp only[List.length_append] at hlen2
   have gx:=uH hx
   simp (maxSteps:=1000000) only [EQ,h,c1,c2,wi,gx,reduceCtorEq,Nat.reduceEqDiff,Nat.reduceAdd,↓reduceIte,BC,↓PC]
   rw[cE]
   exact⟨by omega,by omega,(i+1,_),⟨[(0,0),(3,0)],by simp[Nat.reduceAdd,Nat.reduceLeDiff,↓reduceIte,reduceCtorEq,BC],by simp[Nat.reduceAdd,Nat.reduceEqDiff,Nat.reduceLeDiff,↓reduceIte,BC]⟩,⟨by simp only;omega,hpre⟩,by simp only;omega⟩
  ·obtain rfl:i=l.length:=by omega
   simp only[List.drop_length,vJ,List.append_nil] at hpre
   subst hpre
   have c1:¬ (l.length:Int) < (l.length:Int):=by omega
   simp (maxSteps:=1000000) only [c1,Nat.reduceEqDiff,↓reduceIte,BC,↓PC]
   exact⟨[(0,0),(1,0)],by simp[Nat.reduceAdd,Nat.reduceLeDiff,↓reduceIte,BC],by simp[Nat.reduceAdd,Nat.reduceLeDiff,BB]⟩
def bU (s:List UInt8):List UInt8:=aP s.length++s
theorem f33 (s:List UInt8) (hs:s.length≤2 ^ 39):Fun Tryz.prog tS 43 [.str s] [] 0 (.slc 0 0 1 (bU s).length none) [(0,⟨.own 5,aB (bU s)⟩)] 1:=by
 refine aR none (dR MV cF) (bA Fz bI) ZW (Nat.le_of_ble_eq_true rfl) (by decide) ?_
 conv in aJ _ _=>(reduce;simp only[aH,UInt8.reduceOfNat,Int.reduceOfNat,Int.reduceNegSucc])
 rw[aQ]
 have hI:=aS s.length
 simp (maxSteps:=1000000) only [MV,EQ,reduceCtorEq,Nat.reduceEqDiff,Nat.reduceAdd,↓reduceIte,BC,↓PC]
 exact⟨by omega,by omega,[(1,0)],by simp[bU,cE,↓reduceIte,BC],by simp[bU,BB]⟩
def zJ:GS
 | [.str s],[]=>if s.length≤2 ^ 39 then some (.slc 0 0 1 (bU s).length none,[(0,⟨.own 5,aB (bU s)⟩)],1) else none
 | _,_=>none
theorem MW:dQ Tryz.prog tS 43 zJ:=by
 intro a0 m0 r m1 n1 h
 unfold zJ at h
 split at h
 ·split at h
  ·cases h
   exact⟨f33 _ (by assumption),by simp[dA]⟩
  ·cases h
 ·cases h
theorem FB {x:Int} (h:0≤x):IntKind.i64.wrap x≤x∧IntKind.i64.wrap x≤9223372036854775807:=by
 simp only[IntKind.wrap,IntKind.bits,IntKind.signed]
 simp
 omega
def yT (m:Int):Int:=IntKind.i64.wrap (m.tdiv 256)
theorem CK {m:Int} (h:m > 0):(yT m).toNat < m.toNat∧yT m≤9223372036854775807:=by
 have h1:0≤m.tdiv 256:=Int.tdiv_nonneg (by omega) (by omega)
 have h2:m.tdiv 256 < m:=by rw[Int.tdiv_eq_ediv_of_nonneg (by omega)];omega
 have:=FB h1
 unfold yT
 omega
def Ji:Nat→Int→List UInt8
 | 0,_=>[]
 | f+1,m=>if m > 0 then kF (m.tmod 256) :: Ji f (yT m) else []
theorem BI:∀ (f:Nat) (m:Int),m.toNat≤f→Ji f m=Ji m.toNat m
 | 0,m,h=>by
  have:m.toNat=0:=by omega
  rw[this]
 | f+1,m,h=>by
  by_cases hm:m > 0
  ·have h1:=CK hm
   obtain⟨j,hj⟩:∃ j,m.toNat=j+1:=⟨m.toNat - 1,by omega⟩
   rw[hj]
   simp only[Ji,hm,if_true]
   rw[BI f (yT m) (by omega),BI j (yT m) (by omega)]
  ·have:m.toNat=0:=by omega
   rw[this]
   simp only[Ji,hm,if_false]
termination_by f=>f
def BJ (m:Int):List UInt8:=Ji m.toNat m
theorem yE {m:Int} (h:m > 0):BJ m=kF (m.tmod 256) :: BJ (yT m):=by
 unfold BJ
 obtain⟨j,hj⟩:∃ j,m.toNat=j+1:=⟨m.toNat - 1,by omega⟩
 rw[hj]
 simp only[Ji,h,if_true]
 rw[BI j _ (by have:=CK h;omega)]
theorem yF {m:Int} (h:¬ m > 0):BJ m=[]:=by
 unfold BJ
 have:m.toNat=0:=by omega
 rw[this];rfl
theorem GC:∀ (j:Nat) (m:Int),m < 256 ^ j→(BJ m).length≤j
 | 0,m,h=>by rw[yF (by simp at h;omega)];simp
 | j+1,m,h=>by
  by_cases hm:m > 0
  ·rw[yE hm]
   have h1:0≤m.tdiv 256:=Int.tdiv_nonneg (by omega) (by omega)
   have h2:m.tdiv 256 < 256 ^ j:=by
    rw[Int.tdiv_eq_ediv_of_nonneg (by omega)]
    rw[Int.pow_succ] at h
    omega
   have:=(FB h1).1
   have:=GC j (yT m) (by unfold yT;omega)
   simp only[List.length_cons];omega
  ·rw[yF hm];simp
theorem IC (m:Int):(BJ m).length≤9:=by
 by_cases hm:m > 0
 ·rw[yE hm]
  have:=GC 8 (yT m) (by have:=CK hm;have:(256:Int) ^ 8=18446744073709551616:=by decide
                        omega)
  simp only[List.length_cons];omega
 ·rw[yF hm];simp
def AX (n:Int):Int:=if n < 0 then IntKind.i64.wrap (-1 - n) else n
def U6 (n:Int):UInt8:=if n ≥ 0 then kF (IntKind.i64.wrap (128+((BJ (AX n)).length:Int))) else kF (IntKind.i64.wrap (127 - ((BJ (AX n)).length:Int)))
def ID (n:Int) (d:UInt8):UInt8:=if n < 0 then kF (255 - (d.toNat:Int)) else d
def yU (n:Int):List UInt8:=U6 n :: (BJ (AX n)).reverse.map (ID n)
theorem xB (n:Int):(yU n).length≤10:=by
 have:=IC (AX n)
 simp[yU];omega
theorem f38 (n:Int):Fun Tryz.prog tS 49 [.int .i64 n] [] 0 (.slc 0 0 1 (yU n).length none) [(0,⟨.own 5,aB (yU n)⟩)] 1:=by
 refine aR none cF bI Z0 (Nat.le_of_ble_eq_true rfl) (Nat.zero_le _) ?_
 conv in aJ _ _=>(reduce;simp only[aH,UInt8.reduceOfNat,Int.reduceOfNat,Int.reduceNegSucc])
 rw[aQ]
 have hlen:=xB n
 have hd9:=IC (AX n)
 have key:(IntKind.i64.wrap (-1 - n)=AX n∧n < 0)∨(AX n=n∧¬ n < 0):=by
  unfold AX
  by_cases hn:n < 0
  ·left;rw[if_pos hn];exact⟨rfl,hn⟩
  ·right;rw[if_neg hn];exact⟨rfl,hn⟩
 rcases key with⟨k1,hn⟩|⟨k1,hn⟩
 all_goals
  simp (maxSteps:=1000000) only [hn,reduceCtorEq,Nat.reduceEqDiff,Int.reduceNeg,eq_self,gV,↓reduceIte,↓cL,Opd.ev,Sx.get,put,bQ,fF,aU,BB,↓PB]
  rw[aL]
  refine bF bI (σ:=Int × List UInt8) (fun s=>[(4,AN 0 1 s.2.length),(3,.int .i64 s.1),(0,.int .i64 n)]) (fun s=>v7 0 5 (aB s.2) [] s.2.length) (fun s=>s9 0 s.2.length)
   (fun s=>s.2++BJ s.1=BJ (AX n)) (fun s=>s.1.toNat) (AX n,[]) ⟨[],by simp[dS,aK,aM,aG,b7,BB],by simp[k1,dI,eX,SV.ren,Nat.reduceEqDiff,↓reduceIte,reduceCtorEq,BB]⟩ rfl ?_
  rintro⟨m,pre⟩ hpre
  simp only at hpre
  have hl:=congrArg List.length hpre
  simp only[List.length_append] at hl
  by_cases hm:m > 0
  ·rw[yE hm,← List.singleton_append,← List.append_assoc] at hpre
   have hb:=nL (m.tmod 256)
   have hdec:=(CK hm).1
   cases pre with
   | nil=>
    simp (maxSteps:=1000000) only [hm,reduceCtorEq,Nat.reduceEqDiff,Nat.reduceAdd,Int.reduceNe,eq_self,↓reduceIte,↓cL,↓eG,Opd.ev,Sx.get,put,bQ,fF,aU,rd,aF,SV.cells?,SV.one,BB,↓PB]
    exact⟨by omega,by omega,(yT m,_),⟨[(1,0)],by simp[hb,dS,aK,aM,aG,bB,b7,rd,↓reduceIte,Kind.isOwn,exists_eq_left',ne_eq,implies_true,forall_const,BB],by simp[yT,dI,eX,bB,SV.ren,Nat.reduceEqDiff,↓reduceIte,reduceCtorEq,BB]⟩,hpre,by simp only;omega⟩
   | cons c pre=>
    have h9:pre.length≤9:=by simp at hl;omega
    simp (maxSteps:=1000000) only [hm,reduceCtorEq,Nat.reduceEqDiff,Nat.reduceAdd,Int.reduceNe,eq_self,↓reduceIte,↓cL,↓eG,Opd.ev,Sx.get,put,bQ,fF,aU,rd,rm,aF,SV.cells?,SV.one,BB,↓PB]
    rw[hb,iT]
    exact⟨by omega,by omega,(yT m,_),⟨[(2,0)],by simp[dS,aK,aM,aG,bB,b7,rd,↓reduceIte,Kind.isOwn,exists_eq_left',ne_eq,implies_true,forall_const,BB],by simp[yT,dI,eX,bB,SV.ren,Nat.reduceEqDiff,↓reduceIte,reduceCtorEq,BB]⟩,hpre,by simp only;omega⟩
  ·rw[yF hm,List.append_nil] at hpre
   subst hpre
   have key2:yU n=U6 n :: (BJ (AX n)).reverse.map (ID n):=rfl
   generalize hds:BJ (AX n)=ds at *
   have hh:U6 n=if n ≥ 0 then kF (IntKind.i64.wrap (128+(ds.length:Int))) else kF (IntKind.i64.wrap (127 - (ds.length:Int))):=by unfold U6;rw[hds]
   have hb1:=nL (IntKind.i64.wrap (128+(ds.length:Int)))
   have hb2:=nL (IntKind.i64.wrap (127 - (ds.length:Int)))
   have w0:IntKind.i64.wrap ((ds.length:Int) - 1)=(ds.length:Int) - 1:=aD (by omega) (by omega)
   have hn2:(n ≥ 0)=¬ (n < 0):=by simp
   have hhd:SV.int .u8 (IntKind.u8.wrap (IntKind.i64.wrap (if n ≥ 0 then 128+(ds.length:Int) else 127 - (ds.length:Int))))=SV.byte (U6 n):=by
    rw[hh]
    by_cases hc:n ≥ 0
    ·rw[if_pos hc,if_pos hc];exact hb1
    ·rw[if_neg hc,if_neg hc];exact hb2
   simp only[hn2,hn,not_true_eq_false,not_false_eq_true,if_true,if_false] at hhd
   cases ds with
   | nil=>
    simp (maxSteps:=1000000) only [hm,hn,hn2,reduceCtorEq,Nat.reduceEqDiff,Nat.reduceAdd,Int.reduceLE,Int.reduceAdd,Int.reduceSub,Int.reduceNeg,eq_self,↓reduceIte,↓cL,↓eG,Opd.ev,Sx.get,put,bQ,fF,aU,rd,aF,SV.cells?,SV.one,BB,↓PB]
    simp only[List.length_nil,Int.natCast_zero,Int.add_zero,Int.sub_zero,aD,Int.reduceNeg,Int.reduceLE] at hhd
    rw[aL]
    refine⟨by omega,by omega,a8 bI (aN _ _) 2 ?_⟩
    simp (maxSteps:=1000000) only [Int.reduceGE,reduceCtorEq,Nat.reduceEqDiff,Int.reduceNeg,eq_self,↓reduceIte,↓cL,↓dY,Opd.ev,Sx.get,put,bQ,fF,aU,dX,bB,SV.ren,BB,↓PB]
    exact⟨[(1,0)],by simp[hhd,key2,dS,aK,aM,aG,bB,b7,rd,↓reduceIte,Kind.isOwn,exists_eq_left',ne_eq,implies_true,forall_const,BB],by simp[key2,BB]⟩
   | cons d ds=>
    simp only[List.length_cons] at hhd w0 hd9
    simp (maxSteps:=1000000) only [hm,hn,hn2,w0,reduceCtorEq,Nat.reduceEqDiff,Nat.reduceAdd,eq_self,↓reduceIte,↓cL,↓eG,Opd.ev,Sx.get,put,bQ,fF,aU,rd,aF,SV.cells?,SV.one,BB,↓PB]
    refine⟨by omega,by omega,?_⟩
    rw[aL]
    refine bF bI (σ:=Nat × List UInt8) (fun s=>[(7,.int .i64 ((s.1:Int) - 1)),(6,.slc 1 0 1 s.2.length none),(4,.slc 0 0 1 (ds.length+1) none),(0,.int .i64 n)])
     (fun s=>[(1,⟨.own 5,aB s.2⟩),(0,⟨.own 5,aB (d :: ds)⟩)]) (fun _=>2) (fun s=>s.1≤ds.length+1∧s.2++((d :: ds).take s.1).reverse.map (ID n)=yU n) (fun s=>s.1) (ds.length+1,[U6 n]) ?_ ⟨Nat.le_refl _,?_⟩ ?_
    ·exact⟨[(0,0),(2,0)],by simp only[hhd,dS,aK,aM,aG,bB,b7,rd,Nat.reduceAdd,Nat.reduceSub,Nat.reduceLT,Nat.reduceLeDiff,↓reduceIte,Kind.isOwn,exists_eq_left',ne_eq,implies_true,false_imp_iff,forall_const,reduceCtorEq,forall_eq,BB],by simp only[dI,eX,bB,SV.ren,Nat.reduceAdd,Nat.reduceSub,Nat.reduceEqDiff,↓reduceIte,reduceCtorEq,BB]⟩
    ·rw[key2,List.take_of_length_le (by simp)];rfl
    ·rintro⟨i,pre⟩ ⟨hi,hpre⟩
     simp only at hi hpre
     by_cases hi0:i=0
     ·subst hi0
      simp only[BB] at hpre
      subst hpre
      simp (maxSteps:=1000000) only [Int.reduceGE,reduceCtorEq,Nat.reduceEqDiff,Int.reduceSub,Int.reduceNeg,eq_self,↓reduceIte,↓cL,↓dY,Opd.ev,Sx.get,put,bQ,fF,aU,dX,bB,SV.ren,BB,↓PB]
      exact⟨[(1,0)],by simp[dS,aK,aM,aG,bB,b7,rd,↓reduceIte,Kind.isOwn,exists_eq_left',ne_eq,implies_true,forall_const,BB],by simp[BB]⟩
     ·have q0:(i:Int) - 1 ≥ 0:=by omega
      have v2:IntKind.i64.wrap ((i:Int) - 1 - 1)=(i:Int) - 1 - 1:=aD (by omega) (by omega)
      have q1:((i:Int) - 1 < ((ds.length+1:Nat):Int)):=by omega
      have q2:((i:Int) - 1).toNat=i - 1:=by omega
      obtain⟨x,hx⟩:∃ x,(d :: ds)[i - 1]?=some x:=⟨_,List.getElem?_eq_getElem (by simp;omega)⟩
      have gx:=fL hx
      have hc:ID n x=(if n < 0 then kF (255 - (x.toNat:Int)) else x):=rfl
      have q3:i - 1 < ds.length+1:=by omega
      have hb3:=nL (255 - (x.toNat:Int))
      simp (maxSteps:=1000000) only [hn,q0,q1,q2,q3,v2,gx,reduceCtorEq,Nat.reduceEqDiff,Nat.reduceAdd,eq_self,↓reduceIte,↓cL,↓eG,Opd.ev,Sx.get,put,bQ,fF,aU,rd,rm,aF,SV.cells?,SV.one,BB,↓PB]
      rw[EN hi0 hx,List.map_cons,← List.singleton_append,← List.append_assoc,hc] at hpre
      simp only[hn,if_true,if_false] at hpre
      have Qx:pre.length≤10:=by have:=congrArg List.length hpre;simp at this;omega
      have hci:((i - 1:Nat):Int)=(i:Int) - 1:=by omega
      first
       | rw[hb3,iT]
       | rw[qS,iT]
      exact⟨by omega,by omega,(i - 1,_),⟨[(0,0),(3,0)],by simp[dS,aK,aM,aG,bB,b7,rd,Nat.reduceAdd,Nat.reduceLeDiff,↓reduceIte,Kind.isOwn,exists_eq_left',ne_eq,implies_true,forall_const,reduceCtorEq,forall_eq,BB],by simp[hci,dI,eX,bB,SV.ren,Nat.reduceAdd,Nat.reduceEqDiff,Nat.reduceLeDiff,↓reduceIte,reduceCtorEq,BB]⟩,⟨by simp only;omega,hpre⟩,by simp only;omega⟩
def uL:GS
 | [.int .i64 n],[]=>some (.slc 0 0 1 (yU n).length none,[(0,⟨.own 5,aB (yU n)⟩)],1)
 | _,_=>none
theorem uM:dQ Tryz.prog tS 49 uL:=by
 intro a0 m0 r m1 n1 h
 unfold uL at h
 split at h
 ·cases h;exact⟨f38 _,by simp[dA]⟩
 ·cases h
def M0:List (FuncId × GS):=[(49,uL)]
theorem GD:∀ x∈M0,dQ Tryz.prog tS x.1 x.2:=by
 intro x hx
 simp only[M0,List.mem_cons,List.not_mem_nil,or_false] at hx
 rcases hx with rfl
 exact uM
def Bf:List Int→List UInt8
 | []=>[]
 | x :: l=>yU x++Bf l
theorem FC:∀ l,(Bf l).length≤10 * l.length
 | []=>Nat.le_refl _
 | x :: l=>by
  have:=FC l
  have:=xB x
  simp only[Bf,List.length_append,List.length_cons];omega
def zL (l:List Int):List UInt8:=yU l.length++Bf l
theorem f35 (l:List Int) (hl:l.length≤1000) (cap:Option Nat) :
  Fun Tryz.prog tS 52 [.slc 0 0 1 l.length cap] [(0,⟨.view,d9 l⟩)] 1 (.slc 1 0 1 (zL l).length none) [(1,⟨.own 5,aB (zL l)⟩)] 2:=by
 refine aR none (dR M0 cF) (bA GD bI) Z3 (Nat.le_of_ble_eq_true rfl) (by decide) ?_
 conv in aJ _ _=>(reduce;simp only[aH,UInt8.reduceOfNat,Int.reduceOfNat,Int.reduceNegSucc])
 rw[aQ]
 have hL:=FC l
 have hI:=xB l.length
 have hT:(zL l).length≤10 * (l.length+1):=by unfold zL;simp;omega
 simp (maxSteps:=1000000) only [M0,uL,g9,reduceCtorEq,Nat.reduceEqDiff,Nat.reduceAdd,eq_self, true_and,List.length_nil,List.append_nil,List.nil_append,List.cons_append,List.map_cons,List.map_nil,Nat.add_zero,gV,cG,cB,aW,b6,cC,cK,↓reduceIte,↓fZ,↓i6,↓sJ,Opd.ev,Sx.get,put,bQ,fF,aU,↓sL,j5,hH,dT,CF,bB,SV.ren,cQ,bZ,qM,Kind.isOwn,aC,List.getElem?_nil,Option.getD_none,Nat.sub_zero]
 rw[aL]
 refine bF (bA GD bI) (σ:=Nat × List UInt8) (fun s=>[(4,.int .i64 (s.1:Int)),(0,.slc 0 0 1 l.length cap),(3,.slc 1 0 1 s.2.length none)])
  (fun s=>[(1,⟨.own 5,aB s.2⟩),(0,⟨.view,d9 l⟩)]) (fun _=>2) (fun s=>s.1≤l.length∧s.2++Bf (l.drop s.1)=zL l) (fun s=>l.length - s.1) (0,yU l.length) ?_ ⟨Nat.zero_le _,rfl⟩ ?_
 ·exact⟨[(0,0),(1,0)],by simp[dS,aK,aM,aG,bB,b7,rd,Option.getD_some,List.length_cons,List.length_nil,Nat.zero_add,Nat.add_zero,Nat.reduceAdd,Nat.reduceLeDiff,↓reduceIte,Kind.isOwn,List.take_succ_cons,List.take_zero,List.nil_append,and_self,true_and,exists_eq_left',Option.some.injEq,List.drop_zero,ne_eq,not_false_eq_true,implies_true,List.not_mem_nil,Bool.false_or,Bool.true_or,forall_const,List.mem_cons,or_false,forall_eq,Nat.succ_ne_self,aC,qD,kG,gC],by simp[dI,eX,bB,SV.ren,Option.getD_some,List.length_cons,List.length_nil,Nat.zero_add,Nat.add_zero,Nat.reduceAdd,Nat.reduceLeDiff,↓reduceIte,and_self,reduceCtorEq,Nat.succ_ne_self]⟩
 ·rintro⟨i,pre⟩ ⟨hi,hpre⟩
  simp only at hi hpre
  have hlen:=congrArg List.length hpre
  simp only[List.length_append] at hlen
  by_cases h:i < l.length
  ·have c1:(i:Int) < (l.length:Int):=by omega
   have c2:(0:Int)≤(i:Int):=by omega
   have wi:IntKind.i64.wrap ((i:Int)+1)=((i+1:Nat):Int):=by rw[aD (by omega) (by omega)];omega
   obtain⟨x,hx⟩:∃ x,l[i]?=some x:=⟨_,List.getElem?_eq_getElem h⟩
   have hd:l.drop i=x :: l.drop (i+1):=by
    rw[List.drop_eq_getElem_cons h]
    rw[List.getElem?_eq_getElem h] at hx;cases hx;rfl
   rw[hd] at hpre
   simp only[Bf,← List.append_assoc] at hpre
   have hlen2:=congrArg List.length hpre
   simp only[List.length_append] at hlen2
   have gx:=uH hx
   simp (maxSteps:=1000000) only [uL,h,c1,c2,wi,gx,g9,iA,reduceCtorEq,Nat.reduceEqDiff,Nat.reduceAdd,eq_self,decide_true, true_and,List.length_nil,List.append_nil,List.nil_append,List.cons_append,List.drop_zero,List.map_cons,List.map_nil,Nat.zero_add,Nat.add_zero,dN,cG,↓mU,cB,aW,eK,b6,cC,dB,cK,mX,↓reduceIte,↓mL,↓DA,↓o3,↓fZ,↓gL,↓i6,↓sJ,↓eJ,↓iO,↓gK,↓cL,Opd.ev,Sx.get,put,bQ,fF,aU,rd,rm,↓sL,j5,hH,dT,CF,bB,SV.ren,cQ,bZ,qM,Kind.isOwn,aC,gC,List.getElem?_nil,Option.getD_none,Nat.sub_zero,Nat.le_refl,a9,aA,Int.toNat_natCast,Nat.mul_one]
   rw[cE]
   exact⟨by omega,by omega,(i+1,_),⟨[(0,0),(3,0)],by simp[dS,aK,aM,aG,bB,b7,rd,Option.getD_some,List.length_cons,List.length_nil,Nat.zero_add,Nat.add_zero,Nat.reduceAdd,Nat.reduceLeDiff,↓reduceIte,Kind.isOwn,List.take_succ_cons,List.take_zero,List.nil_append,and_self,true_and,exists_eq_left',Option.some.injEq,List.drop_zero,ne_eq,not_false_eq_true,implies_true,List.not_mem_nil,Bool.false_or,Bool.true_or,forall_const,reduceCtorEq,List.mem_cons,or_false,forall_eq,aC,qD,kG,gC],by simp[dI,eX,bB,SV.ren,Option.getD_some,List.length_cons,List.length_nil,Nat.zero_add,Nat.add_zero,Nat.reduceAdd,Nat.reduceLeDiff,↓reduceIte,and_self,reduceCtorEq,Nat.succ_ne_self]⟩,⟨by simp only;omega,hpre⟩,by simp only;omega⟩
  ·obtain rfl:i=l.length:=by omega
   simp only[List.drop_length,Bf,List.append_nil] at hpre
   subst hpre
   have c1:¬ (l.length:Int) < (l.length:Int):=by omega
   simp (maxSteps:=1000000) only [c1,nJ,reduceCtorEq,Nat.reduceEqDiff,eq_self,decide_false, true_and,Nat.add_zero,dN,cG,↓nU,cB,aW,b6,cC,dB,i5,iW,oC,oD,vH,↓reduceIte,↓fZ,↓gL,↓sJ,↓eJ,↓cL,↓dY,Opd.ev,Sx.get,put,bQ,fF,aU,dX,bB,SV.ren]
   exact⟨[(0,0),(1,0)],by simp[dS,aK,aM,aG,bB,b7,rd,Option.getD_some,List.length_cons,List.length_nil,Nat.zero_add,Nat.add_zero,Nat.reduceAdd,Nat.reduceLeDiff,↓reduceIte,Kind.isOwn,List.take_succ_cons,List.take_zero,List.nil_append,and_self,true_and,exists_eq_left',Option.some.injEq,ne_eq,implies_true,List.not_mem_nil,Bool.true_or,forall_const,aC],by simp[Option.getD_some,List.length_cons,List.length_nil,Nat.zero_add,Nat.add_zero,Nat.reduceAdd,Nat.reduceLeDiff]⟩
def Bg (s:List UInt8):List UInt8:=yU s.length++s
theorem f36 (s:List UInt8) (hs:s.length≤2 ^ 39):Fun Tryz.prog tS 50 [.str s] [] 0 (.slc 0 0 1 (Bg s).length none) [(0,⟨.own 5,aB (Bg s)⟩)] 1:=by
 refine aR none (dR M0 cF) (bA GD bI) Z1 (Nat.le_of_ble_eq_true rfl) (by decide) ?_
 conv in aJ _ _=>(reduce;simp only[aH,UInt8.reduceOfNat,Int.reduceOfNat,Int.reduceNegSucc])
 rw[aQ]
 have hI:=xB s.length
 simp (maxSteps:=1000000) only [M0,uL,g9,reduceCtorEq,Nat.reduceEqDiff,Nat.reduceAdd,eq_self, true_and,List.length_nil,List.append_nil,List.drop_zero,List.map_cons,List.map_nil,Nat.zero_add,Nat.add_zero,gV,dN,cG,cB,aW,b6,cC,iW,vH,↓reduceIte,↓o3,↓fZ,↓Nl,↓i6,↓sJ,↓iO,↓gK,↓dY,Opd.ev,Sx.get,put,bQ,fF,aU,rd,rm,dX,↓sL,j5,hH,dT,CF,bB,SV.ren,cQ,bZ,qM,Kind.isOwn,aC,List.getElem?_nil,Option.getD_none,Nat.sub_zero,Nat.le_refl,a9,AM,aA,Nat.mul_one]
 exact⟨by omega,by omega,[(2,0)],by simp[Bg,cE,dS,aK,aM,aG,bB,b7,rd,Option.getD_some,List.length_cons,List.length_nil,Nat.zero_add,Nat.add_zero,↓reduceIte,Kind.isOwn,List.take_zero,and_self,true_and,exists_eq_left',Option.some.injEq,ne_eq,implies_true,List.not_mem_nil,Bool.true_or,forall_const,aC],by simp[Bg,Option.getD_some,List.length_cons,List.length_nil,Nat.zero_add,Nat.add_zero]⟩
def vL:GS
 | [.str s],[]=>if s.length≤2 ^ 39 then some (.slc 0 0 1 (Bg s).length none,[(0,⟨.own 5,aB (Bg s)⟩)],1) else none
 | _,_=>none
theorem DT:dQ Tryz.prog tS 50 vL:=by
 intro a0 m0 r m1 n1 h
 unfold vL at h
 split at h
 ·split at h
  ·cases h
   exact⟨f36 _ (by assumption),by simp[dA]⟩
  ·cases h
 ·cases h
theorem f37 (d:List UInt8) (hd:d.length=16):Fun Tryz.prog tS 47 [.agg (aB d)] [] 0 (.str d) [] 0:=by
 refine aR none cF bI ZY (Nat.le_of_ble_eq_true rfl) (by decide) ?_
 conv in aJ _ _=>(reduce;simp only[aH,UInt8.reduceOfNat,Int.reduceOfNat,Int.reduceNegSucc])
 rw[aQ]
 simp (maxSteps:=1000000) only [reduceCtorEq,Nat.reduceEqDiff,eq_self,Nat.zero_add,gV,cG,cB,aW,b6,cC,cK,↓reduceIte,↓B6,↓fZ,Opd.ev,Sx.get,put,bQ,fF,aU,SV.cells?]
 rw[aL]
 refine bF bI (σ:=Nat) (fun i=>[(4,.int .i64 (i:Int)),(3,AN 1 1 i),(1,.ptr 0 0)])
  (fun i=>v7 1 5 (aB (d.take i)) [(0,⟨.own 24,aB d⟩)] i) (fun i=>s9 1 i) (fun i=>i≤16) (fun i=>16 - i) 0 ?_ (Nat.zero_le _) ?_
 ·exact⟨[(0,0)],by simp[dS,aK,aM,aG,bB,b7,rd,Option.getD_some,List.length_cons,List.length_nil,Nat.zero_add,Nat.add_zero,↓reduceIte,Kind.isOwn,List.take_zero,and_self,true_and,exists_eq_left',Option.some.injEq,ne_eq,implies_true,List.not_mem_nil,Bool.true_or,forall_const,aC,m5,m6],by simp[dI,eX,bB,SV.ren,Option.getD_some,List.length_cons,List.length_nil,Nat.zero_add,Nat.add_zero,Nat.reduceEqDiff,↓reduceIte,and_self,Nat.succ_ne_self,mZ]⟩
 ·intro i hi
  by_cases h:i < 16
  ·have c1:(i:Int) < 16:=by omega
   have c2:(0:Int)≤(i:Int):=by omega
   have wi:IntKind.i64.wrap ((i:Int)+1)=((i+1:Nat):Int):=by rw[aD (by omega) (by omega)];omega
   obtain⟨x,hx⟩:∃ x,d[i]?=some x:=⟨_,List.getElem?_eq_getElem (by omega)⟩
   have gx:=fL hx
   have ht:aB (d.take i)++[SV.byte x]=aB (d.take (i+1)):=by
    rw[iT,List.take_add_one,hx];rfl
   have hlt:(aB (d.take i)).length=i:=by rw[aA];simp;omega
   cases i with
   | zero=>
    simp (maxSteps:=1000000) only [gx,iA,Nat.reduceEqDiff,Nat.reduceAdd,Int.reduceToNat,Int.reduceLT,Int.reduceLE,Int.reduceAdd,Int.reduceNeg,wrap64,eq_self,decide_true,Int.cast_ofNat_Int, true_and,List.length_cons,List.length_nil,List.append_nil,List.nil_append,List.take_succ_cons,List.take_zero,List.drop_succ_cons,List.drop_zero,List.take_nil,List.drop_nil,Nat.zero_add,Nat.add_zero,dN,cG,↓mU,cB,aW,eK,b6,cC,dB,cK,mX,↓reduceIte,↓g8,↓mL,↓o3,↓fZ,↓wS,↓gL,↓sI,↓eJ,↓iO,↓gK,↓cL,↓eG,Opd.ev,Sx.get,put,bQ,fF,aU,rd,aF,SV.cells?,SV.one,Nat.sub_zero,Nat.le_refl,mZ,m5,m6,Nat.mul_one,Int.cast_ofNat_Int]
    rw[qS]
    have ht:aB (d.take (0+1))=aB [x]:=by rw[← ht];rfl
    exact⟨by omega,by omega,0+1,⟨[(0,0),(2,0)],by simp only[ht,dS,aK,aM,aG,bB,b7,rd,Option.getD_some,List.getElem?_cons_zero,List.getElem?_cons_succ,List.length_cons,List.length_nil,Nat.zero_add,Nat.add_zero,Nat.reduceAdd,Nat.reduceSub,Nat.reduceLT,Nat.reduceLeDiff,↓reduceIte,Kind.isOwn,List.take_zero,and_self,true_and,exists_eq_left',Option.some.injEq,ne_eq,not_false_eq_true,implies_true,List.not_mem_nil,false_imp_iff,Bool.true_or,forall_const,reduceCtorEq,List.mem_cons,or_false,forall_eq,Nat.succ_ne_self,o4,aC,lH,kI],by simp only[dI,eX,bB,SV.ren,Option.getD_some,List.getElem?_cons_zero,List.getElem?_cons_succ,List.length_cons,List.length_nil,Nat.zero_add,Nat.add_zero,Nat.reduceAdd,Nat.reduceSub,Nat.reduceEqDiff,↓reduceIte,and_self,and_true,Option.some.injEq,Nat.succ_ne_self,lG];trivial⟩,by omega,by omega⟩
   | succ i=>
    simp (maxSteps:=1000000) only [c1,c2,wi,gx,iA,reduceCtorEq,Nat.reduceEqDiff,Nat.reduceAdd,eq_self,decide_true,Int.cast_ofNat_Int, true_and,List.length_cons,List.length_nil,List.append_nil,List.nil_append,List.take_succ_cons,List.take_zero,List.drop_succ_cons,List.drop_zero,List.take_nil,List.drop_nil,Nat.zero_add,dN,cG,↓mU,cB,aW,eK,b6,cC,dB,cK,mX,↓reduceIte,↓g8,↓mL,↓o3,↓fZ,↓wS,↓gL,↓sI,↓eJ,↓iO,↓gK,↓cL,↓eG,Opd.ev,Sx.get,put,bQ,fF,aU,rd,rm,aF,SV.cells?,SV.one,Nat.le_refl,lG,lH,kI,aA,Int.toNat_natCast,Nat.mul_one,Int.cast_ofNat_Int]
    rw[qS]
    have e0:List.take (i+1) (aB (List.take (i+1) d))=aB (List.take (i+1) d):=List.take_of_length_le (by omega)
    rw[e0,ht]
    exact⟨by omega,by omega,by rw[aA] at hlt;omega,i+1+1,⟨[(0,0),(3,0)],by simp only[dS,aK,aM,aG,bB,b7,rd,Option.getD_some,List.getElem?_cons_zero,List.getElem?_cons_succ,List.length_cons,List.length_nil,Nat.zero_add,Nat.add_zero,Nat.reduceAdd,Nat.reduceSub,Nat.reduceLT,Nat.reduceLeDiff,↓reduceIte,Kind.isOwn,List.take_zero,and_self,true_and,exists_eq_left',Option.some.injEq,ne_eq,not_false_eq_true,implies_true,List.not_mem_nil,false_imp_iff,Bool.true_or,forall_const,reduceCtorEq,List.mem_cons,or_false,forall_eq,o4,aC,lH,kI],by simp only[dI,eX,bB,SV.ren,Option.getD_some,List.getElem?_cons_zero,List.getElem?_cons_succ,List.length_cons,List.length_nil,Nat.zero_add,Nat.add_zero,Nat.reduceAdd,Nat.reduceSub,Nat.reduceEqDiff,↓reduceIte,and_self,Nat.succ_ne_self,lG]⟩,by omega,by omega⟩
  ·obtain rfl:i=16:=by omega
   simp (maxSteps:=1000000) only [nJ,Nat.reduceEqDiff,Nat.reduceAdd,Int.reduceLT,eq_self,decide_false,Int.cast_ofNat_Int, true_and,List.drop_zero,Nat.zero_add,dN,cG,↓nU,cB,aW,b6,cC,dB,i5,iW,oC,oD,vH,↓reduceIte,↓DB,↓fZ,↓gL,↓eJ,↓gK,↓cL,↓dY,Opd.ev,Sx.get,put,bQ,fF,aU,rd,dX,SV.ren,lG,lH,kI,aA,Nat.mul_one,Int.cast_ofNat_Int]
   have e:List.take 16 d=d:=List.take_of_length_le (by omega)
   have e1:List.take 16 (aB d)=aB d:=List.take_of_length_le (by rw[aA];omega)
   rw[e,e1,bR]
   exact⟨by omega,dD _,[],by simp[dS,aK,aM,aG,b7,List.length_nil,List.take_nil,and_self],rfl⟩
def vV:GS
 | [.agg cells],[]=>match rQ cells with
  | some d=>if d.length=16 then some (.str d,[],0) else none
  | none=>none
 | _,_=>none
theorem xC:dQ Tryz.prog tS 47 vV:=by
 intro a0 m0 r m1 n1 h
 unfold vV at h
 split at h
 ·split at h
  ·rename_i d hd
   split at h
   ·cases h
    rw[b8 hd]
    exact⟨f37 d (by assumption),by simp[dA]⟩
   ·cases h
  ·cases h
 ·cases h
def ER (m j:Nat):Nat:=m / 256 ^ j % 256
def jT (n:Int):Nat:=if n < 0 then (-1 - n).toNat else n.toNat
theorem GE {n:Int} (h:kJ n):jT n < 9223372036854775808:=by
 unfold jT kJ at *
 split <;> omega
theorem Rj {n:Int} (h:kJ n):AX n=(jT n:Int):=by
 unfold AX jT kJ at *
 split
 ·rw[aD (by omega) (by omega)];omega
 ·omega
theorem yG (x:Int):IntKind.u64.wrap x=x % 18446744073709551616:=by
 simp[IntKind.wrap,IntKind.bits,IntKind.signed]
theorem nQ (x:Int):IntKind.u8.wrap x=x % 256:=by
 simp[IntKind.wrap,IntKind.bits,IntKind.signed]
theorem FD (x:Int):dL .xor .u64 (if IntKind.u64.signed then -1 else IntKind.u64.max) x=18446744073709551615 - x % 18446744073709551616:=by
 have hm:(if IntKind.u64.signed then (-1:Int) else IntKind.u64.max)=18446744073709551615:=by decide
 rw[hm]
 unfold dL
 simp only
 have e1:BitVec.ofInt IntKind.u64.bits 18446744073709551615=BitVec.allOnes 64:=show BitVec.ofInt 64 18446744073709551615=BitVec.allOnes 64 by decide
 have e2:(BitVec.allOnes 64 ^^^ BitVec.ofInt 64 x)= ~~~ (BitVec.ofInt 64 x):=by
  rw[BitVec.allOnes_xor]
 rw[e1]
 show IntKind.u64.wrap ((BitVec.allOnes 64 ^^^ BitVec.ofInt 64 x).toNat:Int)=_
 rw[e2,BitVec.toNat_not,yG,BitVec.toNat_ofInt]
 omega
theorem Kh {n:Int} (h:kJ n):DP n=(jT n:Int):=by
 unfold DP jT kJ at *
 split
 ·rw[FD,yG];omega
 ·rw[yG];omega
theorem BK (x:Int) (h:0≤x∧x < 256):dL .xor .u8 x 0=x:=by
 unfold dL
 simp only
 show IntKind.u8.wrap ((BitVec.ofInt 8 x ^^^ BitVec.ofInt 8 0).toNat:Int)=x
 have e:(BitVec.ofInt 8 x ^^^ BitVec.ofInt 8 0)=BitVec.ofInt 8 x:=by
  have:BitVec.ofInt 8 0=0#8:=by decide
  rw[this,BitVec.xor_zero]
 rw[e,nQ,BitVec.toNat_ofInt]
 omega
theorem uN (x:Int) (h:0≤x∧x < 256):dL .xor .u8 x 255=255 - x:=by
 unfold dL
 simp only
 show IntKind.u8.wrap ((BitVec.ofInt 8 x ^^^ BitVec.ofInt 8 255).toNat:Int)=_
 have e:(BitVec.ofInt 8 x ^^^ BitVec.ofInt 8 255)= ~~~ BitVec.ofInt 8 x:=by
  have:BitVec.ofInt 8 255=BitVec.allOnes 8:=by decide
  rw[this,BitVec.xor_comm,BitVec.allOnes_xor]
 rw[e,nQ,BitVec.toNat_not,BitVec.toNat_ofInt]
 omega
theorem Ki {m j:Nat} (hj:j < 8):DN (m:Int) j=((m / 256 ^ j:Nat):Int):=by
 unfold DN
 have h1:min (8 * j) IntKind.u64.bits=8 * j:=Nat.min_eq_left (by show 8 * j≤64;omega)
 rw[h1]
 have h2:((2:Int) ^ (8 * j))=((256 ^ j:Nat):Int):=by
  rw[Int.pow_mul];simp
 rw[h2]
 exact (Int.ofNat_fdiv _ _).symm
theorem FE {m j:Nat} (hj:j < 8):IntKind.u8.wrap (DN (m:Int) j)=(ER m j:Int):=by
 rw[Ki hj,nQ];unfold ER;omega
theorem BL (m j:Nat):ER m j < 256:=Nat.mod_lt _ (by decide)
theorem AY (m j:Nat):ER m (j+1)=ER (m / 256) j:=by
 unfold ER;rw[Nat.pow_succ,Nat.mul_comm,Nat.div_div_eq_div_mul]
theorem Kj {m:Nat} (h:m < 9223372036854775808):yT (m:Int)=((m / 256:Nat):Int):=by
 unfold yT
 rw[Int.tdiv_eq_ediv_of_nonneg (by omega),aD (by omega) (by omega)];omega
theorem Oe:∀ (m:Nat),m < 9223372036854775808→BJ (m:Int)=(List.range (BJ (m:Int)).length).map fun j=>UInt8.ofNat (ER m j)
 | 0,_=>by rw[yF (by omega)];rfl
 | m+1,h=>by
  have hp:((m+1:Nat):Int) > 0:=by omega
  have ih:=Oe ((m+1) / 256) (by omega)
  rw[yE hp,Kj h]
  simp only[List.length_cons,List.range_succ_eq_map,List.map_cons,List.map_map]
  congr 1
  ·unfold kF ER
   rw[nQ,Int.tmod_eq_emod_of_nonneg (by omega)]
   congr 1
   simp only[Nat.pow_zero,Nat.div_one]
   omega
  ·conv=>lhs;rw[ih]
   apply List.map_congr_left
   intro j _
   simp only[Function.comp,AY]
termination_by m=>m
decreasing_by omega
theorem qV:∀ (k m:Nat),m < 9223372036854775808→m < 256 ^ k→(BJ (m:Int)).length≤k:=fun k m h h'=>GC k _ (by exact_mod_cast h')
theorem zM:∀ (k m:Nat),m < 9223372036854775808→256 ^ k≤m→k < (BJ (m:Int)).length
 | 0,m,h,h'=>by
  rw[yE (by simp at h';omega)];simp
 | k+1,m,h,h'=>by
  have hk:0 < 256 ^ (k+1):=Nat.pow_pos (by decide)
  rw[yE (by omega),Kj h]
  have:=zM k (m / 256) (by omega) (by rw[Nat.le_div_iff_mul_le (by decide)];rw[Nat.pow_succ] at h';exact h')
  simp only[List.length_cons];omega
theorem GF {m:Nat} (h:m < 9223372036854775808):∀ k,k≤8→m < 256 ^ k→AT (m:Int) k=(BJ (m:Int)).length
 | 0,_,h'=>by
  have:m=0:=by simpa using h'
  subst this
  rw[yF (by omega)];rfl
 | k+1,hk,h'=>by
  unfold AT
  rw[Ki (by omega)]
  have hpos:0 < 256 ^ k:=Nat.pow_pos (by decide)
  by_cases hc:256 ^ k≤m
  ·have h1:0 < m / 256 ^ k:=Nat.div_pos hc hpos
   rw[if_pos (by exact_mod_cast h1)]
   have:=qV (k+1) m h h'
   have:=zM k m h hc
   omega
  ·have h1:m / 256 ^ k=0:=Nat.div_eq_of_lt (by omega)
   rw[h1,if_neg (by decide)]
   exact GF h k (by omega) (by omega)
theorem zN (m f:Int):∀ i,nP m f i=(List.range i).reverse.map fun j=>y0 (IntKind.u8.wrap (DN m j)) f
 | 0=>rfl
 | i+1=>by
  rw[List.range_succ,List.reverse_append]
  simp only[nP,BB]
  rw[zN m f i]
theorem qW {n:Int} (h:kJ n):aP n=yU n:=by
 have hm:=GE h
 have h8:jT n < 256 ^ 8:=Nat.lt_trans hm (by decide)
 unfold aP yU U6
 rw[Kh h,Rj h,GF hm 8 (Nat.le_refl _) h8]
 have hl:(BJ (jT n:Int)).length≤8:=qV 8 _ hm h8
 generalize hK:(BJ (jT n:Int)).length=K at *
 have hd:=Oe _ hm
 rw[hK] at hd
 congr 1
 ·unfold DO Bu y0 kF
  by_cases hn:n < 0
  ·rw[if_pos hn,if_neg (by omega),uN _ (oE _),nQ,nQ,aD (by omega) (by omega)]
   congr 1;omega
  ·rw[if_neg hn,if_pos (by omega),BK _ (oE _),nQ,nQ,aD (by omega) (by omega)]
 ·rw[zN,hd,← List.map_reverse,List.map_map]
  apply List.map_congr_left
  intro j hj
  have hj8:j < 8:=by simp at hj;omega
  simp only[Function.comp]
  rw[FE hj8]
  have hb:=BL (jT n) j
  unfold Bu ID y0 kF
  by_cases hn:n < 0
  ·rw[if_pos hn,if_pos hn,uN _ (by omega),nQ]
   congr 1
   simp only[UInt8.toNat_ofNat']
   omega
  ·rw[if_neg hn,if_neg hn,BK _ (by omega)]
   congr 1
theorem U7 {n:Int} {K:Nat} (hK:K≤8):DO (Bu n) K=UInt8.ofNat (if n < 0 then 127 - K else 128+K):=by
 unfold DO Bu y0
 by_cases hn:n < 0
 ·rw[if_pos hn,if_pos hn,uN _ (oE _),nQ]
  congr 1;omega
 ·rw[if_neg hn,if_neg hn,BK _ (oE _),nQ]
  congr 1;omega
theorem Kk:∀ (K m m':Nat),m < 256 ^ K→m' < 256 ^ K→(∀ j,j < K→ER m j=ER m' j)→m=m'
 | 0,m,m',h,h',_=>by simp at h h';omega
 | K+1,m,m',h,h',hb=>by
  have h0:=hb 0 (by omega)
  simp only[ER,Nat.pow_zero,Nat.div_one] at h0
  rw[Nat.pow_succ] at h h'
  have ih:=Kk K (m / 256) (m' / 256) (by omega) (by omega) (fun j hj=>by
   have:=hb (j+1) (by omega)
   rwa [AY,AY] at this)
  omega
theorem zO {n:Int} (h:kJ n):∃ K,K≤8∧jT n < 256 ^ K∧(K=0∨256 ^ (K - 1)≤jT n)∧aP n=UInt8.ofNat (if n < 0 then 127 - K else 128+K) :: (List.range K).reverse.map fun j=>UInt8.ofNat (if n < 0 then 255 - ER (jT n) j else ER (jT n) j):=by
 have hm:=GE h
 have h8:jT n < 256 ^ 8:=Nat.lt_trans hm (by decide)
 refine⟨(BJ (jT n:Int)).length,qV 8 _ hm h8,?_,?_,?_⟩
 ·rcases Nat.lt_or_ge (jT n) (256 ^ (BJ (jT n:Int)).length) with h1|h1
  ·exact h1
  ·have:=zM _ _ hm h1;omega
 ·rcases Nat.eq_zero_or_pos (BJ (jT n:Int)).length with h0|h0
  ·exact .inl h0
  ·refine .inr ?_
   rcases Nat.lt_or_ge (jT n) (256 ^ ((BJ (jT n:Int)).length - 1)) with h1|h1
   ·have:=qV _ _ hm h1;omega
   ·exact h1
 ·unfold aP
  rw[Kh h,GF hm 8 (Nat.le_refl _) h8]
  have hl:(BJ (jT n:Int)).length≤8:=qV 8 _ hm h8
  generalize (BJ (jT n:Int)).length=K at *
  rw[U7 hl,zN]
  congr 1
  apply List.map_congr_left
  intro j hj
  have hj8:j < 8:=by simp at hj;omega
  rw[FE hj8]
  have hb:=BL (jT n) j
  unfold Bu y0
  by_cases hn:n < 0
  ·rw[if_pos hn,if_pos hn,uN _ (by omega)]
   congr 1;omega
  ·rw[if_neg hn,if_neg hn,BK _ (by omega)]
   congr 1
end Go.Proofs.YtmhkkalbijbplaaGreatDoor
