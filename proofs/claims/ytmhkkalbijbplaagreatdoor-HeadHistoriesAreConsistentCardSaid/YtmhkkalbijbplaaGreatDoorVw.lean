/- The proof, part Vw: SaA, SaB, LwA. -/
import Derived.Test.YtmhkkalbijbplaaGreatDoorVv
set_option linter.unusedSimpArgs false
set_option linter.unusedVariables false
set_option maxRecDepth 100000
set_option maxHeartbeats 16000000
namespace Go.Proofs.YtmhkkalbijbplaaGreatDoor
open Go Go.Sx
variable {tS:List (Nat × List SV)}
theorem Yp:Fun Tryz.prog tS 117 [.int .i64 1,.val (.slice none 0 0)] [] 0 (.slc 0 0 1 (dV 1 []).length none) [(0,⟨.own 5,aB (dV 1 [])⟩)] 1:=by
 show Fun Tryz.prog tS 117 [.int .i64 1,.val (.slice none 0 0)] [] 0 (.slc 0 0 1 1 none) [(0,⟨.own 5,aB [1]⟩)] 1
 refine fV Tryz.f117 (by kernel_rfl) (by decide) ?_
 conv in aJ _ _=>(reduce;simp only[aH,UInt8.reduceOfNat,Int.reduceOfNat,Int.reduceNegSucc])
 have w:IntKind.u8.wrap 1=1:=rfl
 simp (maxSteps:=1000000) only [w,NV,↓NP,reduceCtorEq,Nat.reduceEqDiff,Nat.reduceAdd,↓reduceIte]
 rw[aL]
 refine a8 (fun _ _ _ _ _ h=>h) (aN _ _) 1 ?_
 simp (maxSteps:=1000000) only [NV,↓NP,Nat.reduceEqDiff,Int.reduceLT,↓reduceIte]
 exact⟨[(0,0)],by simp[NF,↓reduceIte];rfl⟩
theorem Yq:Fun Tryz.prog aO 76 [.int .i64 1,.val (.slice none 0 0)] [] 0 (.agg (aB (dE 1 []))) [] 0:=by
 refine dK Tryz.f76 (by kernel_rfl) (fun _=>by simp only[SV.ren,aC]) ?_
 conv in aJ _ _=>(reduce;simp only[aH,UInt8.reduceOfNat,Int.reduceOfNat,Int.reduceNegSucc])
 have fi:=Yp (tS:=aO)
 have fs:Fun Tryz.prog aO 116 [.slc 0 0 1 (dV 1 []).length none] [(0,⟨.view,aB (dV 1 [])⟩)] 1 (.agg (aB (dE 1 []))) [] 1:=f55 (dV 1 []) (by decide) none (fun c h=>by cases h)
 have hO:=bK 1 []
 generalize dV 1 []=M at *
 generalize dE 1 []=O at *
 simp (maxSteps:=1000000) only [NV,↓NP,reduceCtorEq,Nat.reduceEqDiff,Nat.reduceAdd,↓reduceIte]
 refine aI [] fi ?_
 simp (maxSteps:=1000000) only [NV,NJ,↓NP,Nat.reduceEqDiff,Nat.reduceAdd,↓reduceIte]
 refine aI [(1,0)] fs ?_
 simp (maxSteps:=1000000) only [hO,NV,NJ,↓NP,reduceCtorEq,Nat.reduceEqDiff,Nat.reduceAdd,Nat.reduceSub,Nat.reduceLT,↓reduceIte,bC]
theorem Yr:Fun Tryz.prog aO 33 [.val (.slice none 0 0)] [] 0 (.agg (aB (dE 1 []))) [] 0:=by
 refine dK Tryz.f33 (by kernel_rfl) (fun _=>by simp only[SV.ren,aC]) ?_
 conv in aJ _ _=>(reduce;simp only[aH,UInt8.reduceOfNat,Int.reduceOfNat,Int.reduceNegSucc])
 have hO:=bK 1 []
 simp (maxSteps:=1000000) only [NV,↓NP,reduceCtorEq,Nat.reduceEqDiff,↓reduceIte]
 refine aI [] Yq ?_
 simp (maxSteps:=1000000) only [hO,NV,NJ,↓NP,reduceCtorEq,Nat.reduceEqDiff,Nat.reduceAdd,↓reduceIte,bC]
def kZ (c:UInt8):List UInt8:=List.replicate 32 c
theorem Qe (c:UInt8) (i:Nat) (h:i < 32):aF (aB (List.replicate i c++List.replicate (32 - i) 0)) i [SV.byte c]=aB (List.replicate (i+1) c++List.replicate (32 - (i+1)) 0):=by
 unfold aF
 rw[y5,nW,List.take_left' (by simp),show 32 - i=(32 - (i+1))+1 by omega,List.replicate_succ]
 have:(List.replicate i c++0 :: List.replicate (32 - (i+1)) (0:UInt8)).drop (i+[SV.byte c].length)=List.replicate (32 - (i+1)) 0:=by
  rw[show List.replicate i c++0 :: List.replicate (32 - (i+1)) (0:UInt8)=(List.replicate i c++[0])++List.replicate (32 - (i+1)) 0 by simp]
  exact List.drop_left' (by simp)
 rw[this,List.replicate_succ']
 simp[aB]
theorem Lj (c:UInt8):Fun Tryz.prog tS 32 [.int .u8 (c.toNat:Int)] [] 0 (.str (kZ c)) [] 0:=by
 refine dK Tryz.f32 (by kernel_rfl) (fun _=>rfl) ?_
 conv in aJ _ _=>(reduce;simp only[aH,UInt8.reduceOfNat,Int.reduceOfNat,Int.reduceNegSucc])
 simp (maxSteps:=1000000) only [NV,↓NP,reduceCtorEq,Nat.reduceEqDiff,Int.reduceToNat,Int.reduceLE,Int.reduceMul,↓reduceIte]
 rw[aL]
 refine⟨by decide,by decide,?_⟩
 refine bF (fun _ _ _ _ _ h=>h) (σ:=Nat) (fun i=>[(4,.int .i64 (i:Int)),(3,.slc 0 0 1 32 none),(0,.int .u8 (c.toNat:Int))]) (fun i=>[(0,⟨.own 5,aB (List.replicate i c++List.replicate (32 - i) 0)⟩)]) (fun _=>1) (fun i=>i≤32) (fun i=>32 - i) 0 ?_ (Nat.zero_le _) ?_
 ·exact⟨[(0,0)],by simp[NF,↓reduceIte];rfl,by simp[NF,↓reduceIte,reduceCtorEq]⟩
 ·intro i hi
  have ln:(List.replicate i c++List.replicate (32 - i) (0:UInt8)).length=32:=by simp;omega
  have ln':(aB (List.replicate i c++List.replicate (32 - i) (0:UInt8))).length=32:=by rw[aA,ln]
  by_cases Lj:i < 32
  ·have c1:(i:Int) < 32:=by omega
   have c2:(0:Int)≤(i:Int):=by omega
   have v4:IntKind.i64.wrap ((i:Int)+1)=((i+1:Nat):Int):=by rw[aD (by omega) (by omega)];omega
   have ks:aF (aB (List.replicate i c++List.replicate (32 - i) 0)) i [.int .u8 (c.toNat:Int)]=_:=Qe c i Lj
   have c3:i≤31:=by omega
   simp (maxSteps:=1000000) only [c1,c2,c3,v4,ks,ln,Lj,NV,↓NP,reduceCtorEq,Nat.reduceEqDiff,Nat.reduceLeDiff,↓reduceIte,bC]
   exact⟨i+1,⟨[(0,0)],by simp[NF,↓reduceIte],by simp[NF,Nat.reduceEqDiff,↓reduceIte,reduceCtorEq]⟩,by omega,by omega⟩
  ·obtain rfl:i=32:=by omega
   simp (maxSteps:=1000000) only [NV,↓NP,reduceCtorEq,Nat.reduceEqDiff,Nat.reduceSub,Int.reduceLT,↓reduceIte]
   have e:List.take 32 (aB (List.replicate 32 c++List.replicate 0 0))=aB (kZ c):=by
    rw[y5];rfl
   rw[e]
   exact⟨by simp,dD _,by rw[bR]⟩
theorem Ys (R:List UInt8) (hR:R=dE 1 []):Fun Tryz.prog aO 25 [.agg (dG [109] 0 0 R []),.agg (dG [109] 1 0 R []),.val (.slice none 0 0)] [] 0 (.int .i64 0) [] 0:=by
 refine dK Tryz.f25 (by kernel_rfl) (fun _=>rfl) ?_
 conv in aJ _ _=>(reduce;simp only[aH,UInt8.reduceOfNat,Int.reduceOfNat,Int.reduceNegSucc])
 have lR:R.length=16:=by rw[hR];exact bK _ _
 have fv:∀ s:Int,nT [109] s 0 []=true→Fun Tryz.prog aO 17 [.agg (dG [109] s 0 R [])] [] 0 (.bool true) [] 0:=fun s hs=>by
  have:=LQ (tS:=aO) [109] s 0 R [] lR
  rwa [hs] at this
 have fa:=fv 0 (by decide)
 have fb:=fv 1 (by decide)
 have fr:=VC
 rw[← hR] at fr
 clear hR
 have tk:=fun x=>cP (x:=x) lR
 have tl:=fun l=>iD (l:=l) lR
 have fl:=dH R
 have eP:=lN lR lR
 rw[beq_self_eq_true] at eP
 unfold dG at *
 simp (maxSteps:=1000000) only [lR,tk,fl,NV,↓NP,reduceCtorEq,Nat.reduceEqDiff,Nat.reduceAdd,↓reduceIte]
 refine aE fa ?_
 simp (maxSteps:=1000000) only [lR,tk,fl,NV,↓NP,Nat.reduceEqDiff,Nat.reduceAdd,↓reduceIte]
 refine aE fb ?_
 simp (maxSteps:=1000000) only [lR,tl,fl,NV,↓NP,Int.reduceGT,reduceCtorEq,Nat.reduceEqDiff,Nat.reduceAdd,Nat.reduceLeDiff,↓reduceIte]
 refine aI [] fr ?_
 simp (maxSteps:=1000000) only [eP,NV,NJ,↓NP,Int.reduceGT,undef,Int.reduceBEq,reduceCtorEq,Nat.reduceEqDiff,↓reduceIte]
theorem Yt (R:List UInt8) (lR:R.length=16):Fun Tryz.prog aO 25 [.agg (dG [109] 1 0 R []),.agg (dG [109] 0 0 R []),.val (.slice none 0 0)] [] 0 (.int .i64 1) [] 0:=by
 refine dK Tryz.f25 (by kernel_rfl) (fun _=>rfl) ?_
 conv in aJ _ _=>(reduce;simp only[aH,UInt8.reduceOfNat,Int.reduceOfNat,Int.reduceNegSucc])
 have fv:∀ s:Int,nT [109] s 0 []=true→Fun Tryz.prog aO 17 [.agg (dG [109] s 0 R [])] [] 0 (.bool true) [] 0:=fun s hs=>by
  have:=LQ (tS:=aO) [109] s 0 R [] lR
  rwa [hs] at this
 have fa:=fv 0 (by decide)
 have fb:=fv 1 (by decide)
 have tk:=fun x=>cP (x:=x) lR
 have tl:=fun l=>iD (l:=l) lR
 have fl:=dH R
 unfold dG at *
 simp (maxSteps:=1000000) only [lR,tk,fl,NV,↓NP,reduceCtorEq,Nat.reduceEqDiff,Nat.reduceAdd,↓reduceIte]
 refine aE fb ?_
 simp (maxSteps:=1000000) only [lR,tk,fl,NV,↓NP,Nat.reduceEqDiff,Nat.reduceAdd,↓reduceIte]
 refine aE fa ?_
 simp (maxSteps:=1000000) only [fl,NV,↓NP,Int.reduceGT,reduceCtorEq,Nat.reduceEqDiff,↓reduceIte]
theorem AA3 (seed:List UInt8) (h i:Nat) (M:List UInt8) (s t t':Int) (R:List UInt8) (hh:h≤2) (hi:i < 2 ^ h * 2 ^ h) (hv:nT M s t' []=true) (hR:R.length=16) :
  zW (zV seed h) (h:Int) M s t' R (Gs seed h i M s t R) =
   (if BU (rL (uQ seed ((i / 2 ^ h:Nat):Int)) h) (h:Int) (gZ M s t' R) (mQ (uQ seed ((i / 2 ^ h:Nat):Int)) h (i % 2 ^ h) (gZ M s t R)) ((i % 2 ^ h:Nat):Int)≠0 then
    (0,BU (rL (uQ seed ((i / 2 ^ h:Nat):Int)) h) (h:Int) (gZ M s t' R) (mQ (uQ seed ((i / 2 ^ h:Nat):Int)) h (i % 2 ^ h) (gZ M s t R)) ((i % 2 ^ h:Nat):Int)) else ((i:Int),0)):=by
 have hp:=Nat.two_pow_pos h
 have lm:=Ac seed h i M s t R hh
 have hv':nT M s t' (Gs seed h i M s t R)=true:=by
  have h1:=of_decide_eq_true hv
  exact decide_eq_true (by omega)
 have hM:M.length≤12:=by have:=of_decide_eq_true hv;omega
 have lx:=uR (M:=M) (R:=R) s t hM hR
 have n4:2 ^ h≤4:=Nat.le_trans (Nat.pow_le_pow_right (by decide) hh) (by decide)
 have uT:2 ^ h * 2 ^ h≤4 * 4:=Nat.mul_le_mul n4 n4
 unfold zW
 have hw:jH (h:Int)≠0:=by rw[oM (by omega)];omega
 rw[if_neg (by rw[hv'];simp[hw])]
 have lK:=dJ h (eS (uQ seed ((i / 2 ^ h:Nat):Int)) h)
 have s1:=kM (BS seed) h (i / 2 ^ h) (dM h (eS (uQ seed ((i / 2 ^ h:Nat):Int)) h)) hh
 have s2:=kM (uQ seed ((i / 2 ^ h:Nat):Int)) h (i % 2 ^ h) (gZ M s t R) hh
 have A1:=Gb (seed:=BS seed) (msg:=dM h (eS (uQ seed ((i / 2 ^ h:Nat):Int)) h)) (h:=h) (i:=i / 2 ^ h) (by omega) (Nat.div_lt_of_lt_mul hi) (by omega)
 have hr:=La i (by omega) (dM h (eS (uQ seed ((i / 2 ^ h:Nat):Int)) h)) (mQ (BS seed) h (i / 2 ^ h) (dM h (eS (uQ seed ((i / 2 ^ h:Nat):Int)) h))) (mQ (uQ seed ((i / 2 ^ h:Nat):Int)) h (i % 2 ^ h) (gZ M s t R)) lK (by omega) (by omega)
 unfold Gs
 rw[hr,oM (by omega)]
 simp only[Nat.sub_self]
 have c1:(decide ((0:Int)≤(i:Int)) && decide ((i:Int) < ((2 ^ h:Nat):Int) * ((2 ^ h:Nat):Int)))=true:=by
  rw[← Int.natCast_mul,decide_eq_true (show (0:Int)≤(i:Int) by omega),decide_eq_true (show (i:Int) < ((2 ^ h * 2 ^ h:Nat):Int) by omega)]
  rfl
 rw[c1,Gc,if_neg (by simp)]
 rw[show (i:Int).tdiv ((2 ^ h:Nat):Int)=((i / 2 ^ h:Nat):Int) from rfl,show (i:Int).tmod ((2 ^ h:Nat):Int)=((i % 2 ^ h:Nat):Int) from rfl]
 rw[show zV seed h=rL (BS seed) h from rfl,A1,if_neg (by simp)]
 rfl
theorem Su:zW (zV (kZ 3) 1) 1 [109] 0 9 R0 (Gs (kZ 3) 1 3 [109] 0 0 R0)=(0,8):=by
 have hA:=AA3 (kZ 3) 1 3 [109] 0 0 9 R0 (by decide) (by decide) (by decide) rfl
 have e:BU (rL (uQ (kZ 3) ((3 / 2 ^ 1:Nat):Int)) 1) ((1:Nat):Int) (gZ [109] 0 9 R0) (mQ (uQ (kZ 3) ((3 / 2 ^ 1:Nat):Int)) 1 (3 % 2 ^ 1) (gZ [109] 0 0 R0)) ((3 % 2 ^ 1:Nat):Int)=8:=by
  unfold BU
  have hs:uQ (kZ 3) ((3 / 2 ^ 1:Nat):Int)=sT:=Y5
  rw[hs,show (3 % 2 ^ 1:Nat)=1 from rfl,show ((1:Nat):Int)=1 from rfl,Yo]
  rfl
 rw[e] at hA
 exact hA
theorem Vi:R0.length=16:=rfl
def sA:List UInt8:=Gs (kZ 3) 1 3 [109] 0 0 R0
def sB:List UInt8:=Gs (kZ 3) 1 3 [109] 0 5 R0
theorem Qf:sA.length≤5000:=Ac _ _ _ _ _ _ _ (by decide)
theorem Qg:sB.length≤5000:=Ac _ _ _ _ _ _ _ (by decide)
theorem Ti {t:Int} {S:List UInt8} (h0:0≤t) (h1:t≤9) (hS:S.length≤5000):nT [109] 0 t S=true:=decide_eq_true (by simp;omega)
theorem Jw (K:List UInt8) (hK:K=zV (kZ 3) 1) :
  K.length=16 ∧
  Fun Tryz.prog aO 11 [.str (kZ 3),.int .i64 1] [] 0 (.tup [.agg (aB K),.int .i64 0]) [] 0 ∧
  Fun Tryz.prog aO 13 [.str (kZ 3),.int .i64 1,.int .i64 3,.agg (dG [109] 0 0 R0 [])] [] 0 (.tup [.agg (dG [109] 0 0 R0 sA),.int .i64 0]) [] 0 ∧
  Fun Tryz.prog aO 13 [.str (kZ 3),.int .i64 1,.int .i64 4,.agg (dG [109] 0 0 R0 [])] [] 0 (.tup [.agg y7,.int .i64 22]) [] 0 ∧
  Fun Tryz.prog aO 13 [.str (kZ 3),.int .i64 1,.int .i64 3,.agg (dG [109] 0 5 R0 [])] [] 0 (.tup [.agg (dG [109] 0 5 R0 sB),.int .i64 0]) [] 0 ∧
  Fun Tryz.prog aO 21 [.agg (aB K),.int .i64 1,.agg (dG [109] 0 0 R0 sA)] [] 0 (.tup [.int .i64 3,.int .i64 0]) [] 0 ∧
  Fun Tryz.prog aO 21 [.agg (aB K),.int .i64 1,.agg (dG [109] 0 9 R0 sA)] [] 0 (.tup [.int .i64 0,.int .i64 8]) [] 0 ∧
  Fun Tryz.prog aO 23 [.agg (aB K),.int .i64 1,.agg (dG [109] 0 0 R0 sA),.agg (dG [109] 0 5 R0 sB)] [] 0 (.bool true) [] 0 ∧
  Fun Tryz.prog aO 23 [.agg (aB K),.int .i64 1,.agg (dG [109] 0 0 R0 sA),.agg (dG [109] 0 0 R0 sA)] [] 0 (.bool false) [] 0:=by
 have lk:K.length=16:=by rw[hK];exact dJ _ _
 have la:=Qf
 have lb:=Qg
 have va:zW K 1 [109] 0 0 R0 sA=(3,0):=by rw[hK];exact V3 (kZ 3) 1 3 [109] 0 0 R0 (by decide) (by decide) (by decide) rfl
 have vb:zW K 1 [109] 0 5 R0 sB=(3,0):=by rw[hK];exact V3 (kZ 3) 1 3 [109] 0 5 R0 (by decide) (by decide) (by decide) rfl
 have vm:zW K 1 [109] 0 9 R0 sA=(0,8):=by rw[hK];exact Su
 refine⟨lk,?_,ZM (kZ 3) 1 3 [109] 0 0 R0 [] rfl rfl (by decide) (by decide) (by decide),YP (kZ 3) 1 4 [109] 0 0 R0 [] rfl rfl (by decide) (by decide),ZM (kZ 3) 1 3 [109] 0 5 R0 [] rfl rfl (by decide) (by decide) (by decide),?_,?_,?_,?_⟩
 ·rw[hK];exact h11 (kZ 3) 1 rfl (by decide)
 ·have:=BV K 1 [109] 0 0 R0 sA lk rfl (by omega)
  rwa [va] at this
 ·have:=BV K 1 [109] 0 9 R0 sA lk rfl (by omega)
  rwa [vm] at this
 ·have:=h23 K 1 [109] 0 0 R0 sA [109] 0 5 R0 sB lk rfl (by omega) rfl (by omega) (by decide) (by decide)
  rwa [va,vb,show VZ (3,0) (3,0) (gZ [109] 0 0 R0) (gZ [109] 0 5 R0)=true by decide +kernel] at this
 ·have:=h23 K 1 [109] 0 0 R0 sA [109] 0 0 R0 sA lk rfl (by omega) rfl (by omega) (by decide) (by decide)
  rwa [va,show VZ (3,0) (3,0) (gZ [109] 0 0 R0) (gZ [109] 0 0 R0)=false by decide +kernel] at this
theorem h9:Fun Tryz.prog aO 9 [] [] 0 (.bool true) [] 0:=by
 refine dK Tryz.f9 (by kernel_rfl) (fun _=>rfl) ?_
 conv in aJ _ _=>(reduce;simp only[aH,UInt8.reduceOfNat,Int.reduceOfNat,Int.reduceNegSucc])
 obtain⟨lk,fP,f1,f2,f3,v1,v2,k1,k2⟩:=Jw _ rfl
 have la:=Qf
 have lb:=Qg
 have fk:Fun Tryz.prog aO 32 [.int .u8 3] [] 0 (.str (kZ 3)) [] 0:=Lj 3
 have fr:=Yr
 have c1:=Ys R0 Tg.symm
 rw[Tg] at fr
 have lR:=Vi
 have c2:=Yt R0 lR
 have fe:=h27 (tS:=aO) [109] 0 0 R0 sA (by decide) (by omega) lR
 have de:=Tc [109] 0 0 R0 sA (Ti (by decide) (by decide) la) lR
 have le:(pE [109] 0 0 R0 sA).length≤6000:=by
  have e1:=aS (sA.length:Int)
  have e2:=oL 0 0
  have e3:=aS ((([109]:List UInt8).length:Nat):Int)
  simp only[pE,bU,List.length_append,List.length_cons,List.length_nil,lR] at *
  omega
 have fd:=h28 (pE [109] 0 0 R0 sA) (by omega)
 rw[de.1,de.2] at fd
 have n1:Fun Tryz.prog aO 15 [.int .i64 1] [] 0 (.int .i64 4) [] 0:=S7 1
 have n7:Fun Tryz.prog aO 15 [.int .i64 7] [] 0 (.int .i64 0) [] 0:=S7 7
 have w1:=LQ (tS:=aO) [109] 0 0 R0 sA lR
 rw[Ti (by decide) (by decide) la] at w1
 have w0:Fun Tryz.prog aO 17 [.agg y7] [] 0 (.bool false) [] 0:=LQ (tS:=aO) [] 0 0 bY [] rfl
 have ft:=Vr (tS:=aO) [109] 0 0 R0 [] (by decide) lR
 have lt:((gZ [109] 0 0 R0).length:Int) > 20:=by decide +kernel
 have eH:eF [.i .u8,.i .u8,.i .u8,.i .u8,.i .u8,.i .u8,.i .u8,.i .u8,.i .u8,.i .u8,.i .u8,.i .u8,.i .u8,.i .u8,.i .u8,.i .u8,.s] (aB R0++[.str sA]) (aB R0++[.str sA])=some true:=by
  have h1:=yI R0 R0 [.s] [.str sA] [.str sA] true rfl (by simp only[eF,nD,beq_self_eq_true,Bool.and_true])
  rw[lR,beq_self_eq_true,Bool.and_true] at h1
  exact h1
 generalize zV (kZ 3) 1=K at *
 generalize kZ 3=KS at *
 generalize pE [109] 0 0 R0 sA=EA at *
 generalize gZ [109] 0 0 R0=TX at *
 generalize sA=SA at *
 generalize sB=SB at *
 clear de
 have tk:=fun x=>cP (x:=x) lR
 have tl:=fun l=>iD (l:=l) lR
 have fl:=dH R0
 have sp:=fun (x:List UInt8) d=>i9 (l:=[.str x]) (d:=d) lR
 have hz:y7=[.str [],.int .i64 0,.int .i64 0,.int .u8 0,.int .u8 0,.int .u8 0,.int .u8 0,.int .u8 0,.int .u8 0,.int .u8 0,.int .u8 0,.int .u8 0,.int .u8 0,.int .u8 0,.int .u8 0,.int .u8 0,.int .u8 0,.int .u8 0,.int .u8 0,.str []]:=rfl
 rw[hz] at f2 w0
 clear hz
 unfold dG at *
 generalize R0=R at *
 have rt:=fun η x=>mR η R x
 have spz:aF [.int .u8 0,.int .u8 0,.int .u8 0,.int .u8 0,.int .u8 0,.int .u8 0,.int .u8 0,.int .u8 0,.int .u8 0,.int .u8 0,.int .u8 0,.int .u8 0,.int .u8 0,.int .u8 0,.int .u8 0,.int .u8 0,.str []] 0 (aB R)=aB R++[.str []]:=FT (R:=bY) (l:=[.str []]) rfl lR
 simp (maxSteps:=1000000) only [NV,↓NP,↓reduceIte]
 refine aE fk ?_
 simp (maxSteps:=1000000) only [NV,↓NP,Nat.reduceEqDiff,↓reduceIte]
 refine aI [] fr ?_
 simp (maxSteps:=1000000) only [lR,spz,NV,NJ,↓NP,Nat.reduceEqDiff,Nat.reduceAdd,Nat.reduceLeDiff,↓reduceIte,bC]
 refine aE fP ?_
 simp (maxSteps:=1000000) only [lR,lk,tk,fl,NV,↓NP,reduceCtorEq,Nat.reduceEqDiff,Nat.reduceAdd,↓reduceIte,bC]
 refine aE f1 ?_
 simp (maxSteps:=1000000) only [lR,lk,tk,fl,NV,↓NP,reduceCtorEq,Nat.reduceEqDiff,Nat.reduceAdd,↓reduceIte,bC]
 refine aE v1 ?_
 simp (maxSteps:=1000000) only [lR,tk,fl,NV,↓NP,reduceCtorEq,Nat.reduceEqDiff,Nat.reduceAdd,↓reduceIte]
 refine aE f2 ?_
 simp (maxSteps:=1000000) only [lR,tk,fl,NV,↓NP,reduceCtorEq,Nat.reduceEqDiff,Nat.reduceAdd,Nat.reduceLeDiff,↓reduceIte,bC]
 refine aE f3 ?_
 simp (maxSteps:=1000000) only [lR,lk,tk,fl,NV,↓NP,reduceCtorEq,Nat.reduceEqDiff,Nat.reduceAdd,Nat.reduceLeDiff,↓reduceIte,bC]
 refine aE v2 ?_
 simp (maxSteps:=1000000) only [lR,lk,tk,fl,NV,↓NP,Nat.reduceEqDiff,Nat.reduceAdd,↓reduceIte]
 refine aE k1 ?_
 simp (maxSteps:=1000000) only [lR,lk,tk,fl,NV,↓NP,Nat.reduceEqDiff,Nat.reduceAdd,↓reduceIte]
 refine aE k2 ?_
 simp (maxSteps:=1000000) only [lR,tk,fl,NV,↓NP,Nat.reduceEqDiff,Nat.reduceAdd,↓reduceIte]
 refine aE fe ?_
 simp (maxSteps:=1000000) only [fl,NV,↓NP,Nat.reduceEqDiff,↓reduceIte]
 refine aE fd ?_
 simp (maxSteps:=1000000) only [lR,tk,fl,eH,NV,↓NP,Int.reduceBNe,eF,nD,reduceCtorEq,Nat.reduceEqDiff,Nat.reduceAdd,Nat.reduceLeDiff,↓reduceIte,bC]
 refine aE n1 ?_
 simp (maxSteps:=1000000) only [NV,↓NP,Nat.reduceEqDiff,↓reduceIte]
 refine aE n7 ?_
 simp (maxSteps:=1000000) only [lR,tk,fl,NV,↓NP,Nat.reduceEqDiff,Nat.reduceAdd,↓reduceIte]
 refine aE w1 ?_
 simp (maxSteps:=1000000) only [fl,NV,↓NP,Nat.reduceEqDiff,↓reduceIte]
 refine aE w0 ?_
 simp (maxSteps:=1000000) only [lR,tk,fl,NV,↓NP,reduceCtorEq,Nat.reduceEqDiff,Nat.reduceAdd,↓reduceIte]
 refine aE ft ?_
 simp (maxSteps:=1000000) only [lR,tk,fl,lt,NV,↓NP,reduceCtorEq,Nat.reduceEqDiff,Nat.reduceAdd,↓reduceIte]
 refine aI [] c1 ?_
 simp (maxSteps:=1000000) only [lR,tk,rt,NV,NJ,↓NP,reduceCtorEq,Nat.reduceEqDiff,Nat.reduceAdd,↓reduceIte]
 refine aI [] c2 ?_
 simp (maxSteps:=1000000) only [rt,NV,NJ,↓NP,reduceCtorEq,Nat.reduceEqDiff,↓reduceIte]
theorem Qw (M:List UInt8) (s t:Int) (R S:List UInt8) (hR:R.length=16):Fun Tryz.prog tS 18 [.agg (dG M s t R S)] [] 0 (.bool (nT M s t S)) [] 0:=by
 refine dK Tryz.f18 (by kernel_rfl) (fun _=>rfl) ?_
 conv in aJ _ _=>(reduce;simp only[aH,seval])
 have g:=zU (l:=[.str S]) hR
 unfold dG
 simp only[g,NV,↓NP,undef,seval]
 simp only[nT,decide_eq_true_eq,decide_eq_false_iff_not,eq_comm (a:=false),decide_eq_decide]
 omega
theorem h31 (m:Nat) (hm:m≤2):Fun Tryz.prog tS 31 [.int .i64 (m:Int)] [] 0 (.int .i64 ((2 ^ m * 2 ^ m:Nat):Int)) [] 0:=by
 refine dK Tryz.f31 (by kernel_rfl) (fun _=>rfl) ?_
 conv in aJ _ _=>(reduce;simp only[aH,seval])
 obtain rfl|rfl|rfl:m=0∨m=1∨m=2:=by omega
 ·simp only[NV,↓NP,seval]
  rfl
 ·simp only[NV,↓NP,seval]
  rfl
 ·simp only[NV,↓NP,seval]
  rfl
theorem h7 (c m0 i0:UInt8) (M:List UInt8) (s t:Int) (R S:List UInt8) (lR:R.length=16) :
  Fun Tryz.prog aO 7 [.int .u8 (c.toNat:Int),.int .u8 (m0.toNat:Int),.int .u8 (i0.toNat:Int),.agg (dG M s t R S)] [] 0 (.bool true) [] 0:=by
 refine dK Tryz.f7 (by kernel_rfl) (fun _=>rfl) ?_
 conv in aJ _ _=>(reduce;simp only[aH,seval])
 have fv:=Qw (tS:=aO) M s t R [] lR
 have tk:=fun x=>cP (x:=x) lR
 have tl:=fun l=>iD (l:=l) lR
 have fl:=dH R
 have sp:=fun (x:List UInt8) d=>i9 (l:=[.str x]) (d:=d) lR
 by_cases hv:nT M s t []=true
 case neg=>
  rw[show nT M s t []=false by simpa using hv] at fv
  unfold dG at *
  simp only[NV,↓NP,seval]
  refine aE h9 ?_
  simp only[lR,tk,fl,sp,NV,↓NP,bC,seval]
  refine aE fv ?_
  simp only[fl,NV,↓NP,seval]
 rw[hv] at fv
 have hm:m0.toNat % 3≤2:=by omega
 have hp:=Nat.two_pow_pos (m0.toNat % 3)
 have hpp:0 < 2 ^ (m0.toNat % 3) * 2 ^ (m0.toNat % 3):=Nat.mul_pos hp hp
 have b1:=UInt8.toNat_lt m0
 have b2:=UInt8.toNat_lt i0
 have w1:IntKind.i64.wrap (m0.toNat:Int)=(m0.toNat:Int):=Aa (by omega)
 have w2:IntKind.i64.wrap (i0.toNat:Int)=(i0.toNat:Int):=Aa (by omega)
 have r1:(m0.toNat:Int).tmod 3=((m0.toNat % 3:Nat):Int):=rfl
 generalize m0.toNat % 3=m at *
 have r2:(i0.toNat:Int).tmod ((2 ^ m * 2 ^ m:Nat):Int)=((i0.toNat % (2 ^ m * 2 ^ m):Nat):Int):=rfl
 have hi:i0.toNat % (2 ^ m * 2 ^ m) < 2 ^ m * 2 ^ m:=Nat.mod_lt _ hpp
 generalize i0.toNat % (2 ^ m * 2 ^ m)=i at *
 have f31:=h31 (tS:=aO) m hm
 have fk:=Lj (tS:=aO) c
 have f11:=h11 (kZ c) m rfl (by omega)
 have lk:(zV (kZ c) m).length=16:=dJ _ _
 have f13:=ZM (kZ c) m i M s t R [] lR rfl hm hi hv
 have lm:=Ac (kZ c) m i M s t R hm
 have ac:=V3 (kZ c) m i M s t R hm hi hv lR
 have f21:=BV (zV (kZ c) m) (m:Int) M s t R (Gs (kZ c) m i M s t R) lk lR (by omega)
 rw[ac] at f21
 simp only at f21
 have eP:=lN lR lR
 rw[beq_self_eq_true] at eP
 generalize Gs (kZ c) m i M s t R=SG at *
 generalize zV (kZ c) m=K at *
 generalize kZ c=KS at *
 generalize 2 ^ m * 2 ^ m=N at *
 have c0:¬ (N:Int)=0:=by omega
 unfold dG at *
 simp only[NV,↓NP,seval]
 refine aE h9 ?_
 simp only[lR,tk,fl,sp,NV,↓NP,bC,seval]
 refine aE fv ?_
 simp only[fl,w1,w2,r1,NV,NJ,↓NP,seval]
 refine aE f31 ?_
 simp only[r2,c0,NV,NJ,↓NP,seval]
 refine aE fk ?_
 simp only[NV,↓NP,seval]
 refine aE f11 ?_
 simp only[lR,lk,tk,fl,NV,↓NP,Ei,cV,jC,touch,clear,eV,lZ,bC,seval]
 refine aE fk ?_
 simp only[NV]
 refine aE f13 ?_
 simp only[lR,lk,tk,fl,NV,seval]
 refine aE f21 ?_
 simp only[lR,tl,fl,eP,NV,↓NP,seval]
end Go.Proofs.YtmhkkalbijbplaaGreatDoor
