/- The proof, part Vz: RfG, RfH, LwD. -/
import Derived.Test.YtmhkkalbijbplaaGreatDoorVx
set_option linter.unusedSimpArgs false
set_option linter.unusedVariables false
set_option maxRecDepth 100000
set_option maxHeartbeats 16000000
namespace Go.Proofs.YtmhkkalbijbplaaGreatDoor
open Go Go.Sx
variable {tS:List (Nat × List SV)}
theorem Yv (label:List UInt8) (h1:label.length≤2 ^ 20):Fun Tryz.prog tS 122 [.str label,.val (.slice none 0 0)] [] 0 (.str (bU label)) [] 0:=by
 refine dK Tryz.f122 (by kernel_rfl) (fun _=>rfl) ?_
 conv in aJ _ _=>(reduce;simp only[aH,UInt8.reduceOfNat,Int.reduceOfNat,Int.reduceNegSucc])
 have b1:=vR (tS:=tS) (s:=label) (by omega)
 have l1:=iC h1
 generalize bU label=A at *
 have c:A.length≤2 ^ 40:=by omega
 simp (maxSteps:=1000000) only [NV,↓NP,reduceCtorEq,Nat.reduceEqDiff,Nat.reduceAdd,↓reduceIte]
 refine aI [] b1 ?_
 simp (maxSteps:=1000000) only [c,NV,NJ,↓NP,reduceCtorEq,Nat.reduceEqDiff,Nat.reduceAdd,Nat.reduceLeDiff,↓reduceIte,Nat.reducePow]
 rw[aL]
 refine a8 (fun _ _ _ _ _ h=>h) (aN _ _) 1 ?_
 simp (maxSteps:=1000000) only [NV,↓NP,Nat.reduceEqDiff,Int.reduceLT,↓reduceIte]
theorem ABd (key label:List UInt8) (hk:key.length≤64) (h1:label.length≤2 ^ 20):Fun Tryz.prog aO 85 [.str key,.str label,.val (.slice none 0 0)] [] 0 (.str (BM key (bU label))) [] 0:=by
 refine dK Tryz.f85 (by kernel_rfl) (fun _=>rfl) ?_
 conv in aJ _ _=>(reduce;simp only[aH,UInt8.reduceOfNat,Int.reduceOfNat,Int.reduceNegSucc])
 have f1:=Yv (tS:=aO) label h1
 have f2:=XW key (bU label) hk (by have:=iC h1;omega)
 generalize bU label=A at *
 generalize BM key A=B at *
 simp (maxSteps:=1000000) only [NV,↓NP,reduceCtorEq,Nat.reduceEqDiff,Nat.reduceAdd,↓reduceIte]
 refine aI [] f1 ?_
 simp (maxSteps:=1000000) only [NV,NJ,↓NP,Nat.reduceEqDiff,↓reduceIte]
 refine aE f2 ?_
 simp (maxSteps:=1000000) only [NV,↓NP,Nat.reduceEqDiff,↓reduceIte]
theorem h40 (seed:List UInt8) (hk:seed.length≤64):Fun Tryz.prog aO 40 [.str seed] [] 0 (.str (BS seed)) [] 0:=by
 refine dK Tryz.f40 (by kernel_rfl) (fun _=>rfl) ?_
 conv in aJ _ _=>(reduce;simp only[aH,UInt8.reduceOfNat,Int.reduceOfNat,Int.reduceNegSucc])
 have f1:=ABd seed [117,112,112,101,114] hk (by decide)
 unfold BS
 simp (maxSteps:=1000000) only [NV,↓NP,reduceCtorEq,↓reduceIte]
 refine aI [] f1 ?_
 simp (maxSteps:=1000000) only [NV,NJ,↓NP,Nat.reduceEqDiff,↓reduceIte]
theorem Yw (seed:List UInt8) (h:Nat) (hs:seed.length=32) (hh:h≤6):Fun Tryz.prog aO 12 [.str seed,.int .i64 (h:Int)] [] 0 (.tup [.agg (aB (zV seed h)),.int .i64 0]) [] 0:=by
 refine dK Tryz.f12 (by kernel_rfl) (fun _=>by simp only[SV.ren,SV.renL,aC]) ?_
 conv in aJ _ _=>(reduce;simp only[aH,UInt8.reduceOfNat,Int.reduceOfNat,Int.reduceNegSucc])
 have fw:=Sv (tS:=aO) (h:Int)
 have fu:=h40 seed (by omega)
 have fp:=QP eS Ga (BS seed) h (CV seed) hh
 have lr:=dJ h (eS (BS seed) h)
 rw[oM hh] at fw
 unfold zV
 have hp:=Nat.two_pow_pos h
 generalize 2 ^ h=N at *
 have c0:((N:Int)==0)=false:=by simp;omega
 generalize dM h (eS (BS seed) h)=R at *
 generalize BS seed=U at *
 have c1:((seed.length:Int) != 32)=false:=by rw[hs];rfl
 simp (maxSteps:=1000000) only [c1,NV,↓NP,reduceCtorEq,Nat.reduceEqDiff,Nat.reduceAdd,↓reduceIte]
 refine aE fw ?_
 simp (maxSteps:=1000000) only [c0,NV,↓NP,reduceCtorEq,Nat.reduceEqDiff,↓reduceIte]
 refine aE fu ?_
 simp (maxSteps:=1000000) only [NV,↓NP,Nat.reduceEqDiff,↓reduceIte]
 refine aE fp ?_
 simp (maxSteps:=1000000) only [lr,NV,↓NP,Nat.reduceEqDiff,Nat.reduceAdd,↓reduceIte,bC]
theorem ABe (seed:List UInt8) (ht:Int) (hc:seed.length≠32∨ht < 0∨6 < ht):Fun Tryz.prog aO 12 [.str seed,.int .i64 ht] [] 0 (.tup [.agg (aB bY),.int .i64 1]) [] 0:=by
 refine dK Tryz.f12 (by kernel_rfl) (fun _=>by simp only[SV.ren,SV.renL,aC]) ?_
 conv in aJ _ _=>(reduce;simp only[aH,UInt8.reduceOfNat,Int.reduceOfNat,Int.reduceNegSucc])
 have fw:=Sv (tS:=aO) ht
 by_cases h1:seed.length=32
 ·rw[CW (by omega)] at fw
  have c1:((seed.length:Int) != 32)=false:=by rw[h1];rfl
  simp (maxSteps:=1000000) only [c1,NV,↓NP,reduceCtorEq,Nat.reduceEqDiff,Nat.reduceAdd,↓reduceIte]
  refine aE fw ?_
  simp (maxSteps:=1000000) only [NV,↓NP,reduceCtorEq,Nat.reduceEqDiff,Nat.reduceAdd,↓reduceIte,bC]
  rfl
 ·have c1:((seed.length:Int) != 32)=true:=by simp;omega
  simp (maxSteps:=1000000) only [c1,NV,↓NP,undef,reduceCtorEq,Nat.reduceEqDiff,Nat.reduceAdd,↓reduceIte,bC]
  rfl
theorem Sw {n:Nat} (h:n≤1099511627776):kJ (n:Int):=⟨by omega,by omega⟩
theorem Tk {n:Int} (h:kJ n):Fun Tryz.prog tS 49 [.int .i64 n] [] 0 (.slc 0 0 1 (aP n).length none) [(0,⟨.own 5,aB (aP n)⟩)] 1:=by
 have:=f38 (tS:=tS) n
 rwa [← qW h] at this
theorem h46 (seed:List UInt8) (s:Int) (hk:seed.length≤64) (hs:kJ s):Fun Tryz.prog aO 46 [.str seed,.int .i64 s] [] 0 (.str (uQ seed s)) [] 0:=by
 refine dK Tryz.f46 (by kernel_rfl) (fun _=>rfl) ?_
 conv in aJ _ _=>(reduce;simp only[aH,UInt8.reduceOfNat,Int.reduceOfNat,Int.reduceNegSucc])
 have e1:=aS s
 have fi:=Tk (tS:=aO) hs
 have fd:=Xc seed [108,111,119,101,114] (aP s) hk (by decide) (by omega)
 unfold uQ
 simp (maxSteps:=1000000) only [NV,↓NP,reduceCtorEq,Nat.reduceEqDiff,Nat.reduceAdd,↓reduceIte]
 refine aI [] fi ?_
 simp (maxSteps:=1000000) only [NV,NJ,↓NP,Nat.reduceEqDiff,Nat.reduceAdd,↓reduceIte]
 refine aI [(1,0)] fd ?_
 simp (maxSteps:=1000000) only [NV,NJ,↓NP,Nat.reduceEqDiff,Nat.reduceSub,Nat.reduceLT,↓reduceIte]
theorem h48 (seed:List UInt8) (h i:Nat) (msg:List UInt8) (hs:seed.length=32) (hh:h≤6) (hi:i < 2 ^ h) (hm:msg.length≤1048576) :
  Fun Tryz.prog aO 48 [.str seed,.int .i64 (h:Int),.int .i64 (i:Int),.str msg] [] 0 (.tup [.str (mQ seed h i msg),.int .i64 0]) [] 0:=by
 have n64:2 ^ h≤64:=by have:=(y6 hh).1;unfold P2 at this;omega
 exact YX eS Ga rL V0 seed msg h i hs hh hi hm (gM seed (i:Int)) (dE 6 [rL seed h,aP (i:Int),msg]) _ (Ix _ _) (Im (by omega) (by omega))
  (A7 (Ix _ _) (by omega) (by omega) (by omega)) (bK _ _) (Sh (by rw[yK];decide) (bK _ _)) (uO _ _)
theorem ABf (seed:List UInt8) (ht i:Int) (M:List UInt8) (s t:Int) (R S:List UInt8) (hR:R.length=16) (hc:seed.length≠32∨ht < 0∨6 < ht) :
  Fun Tryz.prog aO 14 [.str seed,.int .i64 ht,.int .i64 i,.agg (dG M s t R S)] [] 0 (.tup [.agg y7,.int .i64 1]) [] 0:=by
 refine dK Tryz.f14 (by kernel_rfl) (fun _=>rfl) ?_
 conv in aJ _ _=>(reduce;simp only[aH,UInt8.reduceOfNat,Int.reduceOfNat,Int.reduceNegSucc])
 have fw:=Sv (tS:=aO) ht
 unfold dG
 by_cases h1:seed.length=32
 ·rw[CW (by omega)] at fw
  have c1:((seed.length:Int) != 32)=false:=by rw[h1];rfl
  simp (maxSteps:=1000000) only [c1,NV,↓NP,reduceCtorEq,Nat.reduceEqDiff,Nat.reduceAdd,↓reduceIte]
  refine aE fw ?_
  simp (maxSteps:=1000000) only [NV,↓NP,reduceCtorEq,Nat.reduceEqDiff,Nat.reduceAdd,↓reduceIte,bC]
  rfl
 ·have c1:((seed.length:Int) != 32)=true:=by simp;omega
  simp (maxSteps:=1000000) only [c1,NV,↓NP,undef,reduceCtorEq,Nat.reduceEqDiff,Nat.reduceAdd,↓reduceIte,bC]
  rfl
theorem ABg (seed:List UInt8) (h:Nat) (i:Int) (M:List UInt8) (s t:Int) (R S:List UInt8) (hR:R.length=16) (hs:seed.length=32) (hh:h≤6) (hi:i < 0∨jH (h:Int) * jH (h:Int)≤i) :
  Fun Tryz.prog aO 14 [.str seed,.int .i64 (h:Int),.int .i64 i,.agg (dG M s t R S)] [] 0 (.tup [.agg y7,.int .i64 22]) [] 0:=by
 refine dK Tryz.f14 (by kernel_rfl) (fun _=>rfl) ?_
 conv in aJ _ _=>(reduce;simp only[aH,UInt8.reduceOfNat,Int.reduceOfNat,Int.reduceNegSucc])
 have fw:=Sv (tS:=aO) (h:Int)
 have fc:=uT (tS:=aO) (h:Int)
 unfold dG
 have c1:((seed.length:Int) != 32)=false:=by rw[hs];rfl
 have c0:(jH (h:Int)==0)=false:=by
  have hp:=Nat.two_pow_pos h
  rw[oM hh]
  generalize 2 ^ h=N at *
  simp;omega
 generalize jH (h:Int) * jH (h:Int)=W at *
 generalize jH (h:Int)=V at *
 by_cases h1:i < 0
 ·simp (maxSteps:=1000000) only [c1,NV,↓NP,reduceCtorEq,Nat.reduceEqDiff,Nat.reduceAdd,↓reduceIte]
  refine aE fw ?_
  simp (maxSteps:=1000000) only [c0,h1,NV,↓NP,undef,reduceCtorEq,Nat.reduceEqDiff,Nat.reduceAdd,↓reduceIte,bC]
  rfl
 ·have c2:i ≥ W:=by omega
  simp (maxSteps:=1000000) only [c1,NV,↓NP,reduceCtorEq,Nat.reduceEqDiff,Nat.reduceAdd,↓reduceIte]
  refine aE fw ?_
  simp (maxSteps:=1000000) only [c0,h1,NV,↓NP,reduceCtorEq,Nat.reduceEqDiff,↓reduceIte]
  refine aE fc ?_
  simp (maxSteps:=1000000) only [c2,NV,↓NP,reduceCtorEq,Nat.reduceEqDiff,Nat.reduceAdd,↓reduceIte,bC]
  rfl
theorem ABh (seed:List UInt8) (h:Nat) (i:Int) (M:List UInt8) (s t:Int) (R S:List UInt8) (hR:R.length=16) (hs:seed.length=32) (hh:h≤6) (h0:0≤i) (hi:i < jH (h:Int) * jH (h:Int)) (hv:nT M s t []=false) :
  Fun Tryz.prog aO 14 [.str seed,.int .i64 (h:Int),.int .i64 i,.agg (dG M s t R S)] [] 0 (.tup [.agg y7,.int .i64 1]) [] 0:=by
 refine dK Tryz.f14 (by kernel_rfl) (fun _=>rfl) ?_
 conv in aJ _ _=>(reduce;simp only[aH,UInt8.reduceOfNat,Int.reduceOfNat,Int.reduceNegSucc])
 have fw:=Sv (tS:=aO) (h:Int)
 have fc:=uT (tS:=aO) (h:Int)
 have fv:=Qw (tS:=aO) M s t R [] hR
 rw[hv] at fv
 have sp:=fun d=>i9 (l:=[.str S]) (d:=d) hR
 have tk:=fun x=>cP (x:=x) hR
 have fl:=dH R
 unfold dG at *
 have c1:((seed.length:Int) != 32)=false:=by rw[hs];rfl
 have c0:(jH (h:Int)==0)=false:=by
  have hp:=Nat.two_pow_pos h
  rw[oM hh]
  generalize 2 ^ h=N at *
  simp;omega
 generalize jH (h:Int) * jH (h:Int)=W at *
 generalize jH (h:Int)=V at *
 have c2:¬ i ≥ W:=by omega
 have c3:¬ i < 0:=by omega
 simp (maxSteps:=1000000) only [c1,NV,↓NP,reduceCtorEq,Nat.reduceEqDiff,Nat.reduceAdd,↓reduceIte]
 refine aE fw ?_
 simp (maxSteps:=1000000) only [c0,c3,NV,↓NP,reduceCtorEq,Nat.reduceEqDiff,↓reduceIte]
 refine aE fc ?_
 simp (maxSteps:=1000000) only [c2,sp,tk,hR,fl,NV,↓NP,reduceCtorEq,Nat.reduceEqDiff,Nat.reduceAdd,↓reduceIte,bC]
 refine aE fv ?_
 simp (maxSteps:=1000000) only [fl,NV,↓NP,reduceCtorEq,Nat.reduceEqDiff,Nat.reduceAdd,↓reduceIte,bC]
 rfl
theorem h14 (seed:List UInt8) (h i:Nat) (M:List UInt8) (s t:Int) (R S:List UInt8) (hR:R.length=16) (hs:seed.length=32) (hh:h≤2) (hi:i < 2 ^ h * 2 ^ h) (hv:nT M s t []=true) (rs:kJ s) (rt:kJ t) :
  Fun Tryz.prog aO 14 [.str seed,.int .i64 (h:Int),.int .i64 (i:Int),.agg (dG M s t R S)] [] 0 (.tup [.agg (dG M s t R (Gs seed h i M s t R)),.int .i64 0]) [] 0:=by
 refine dK Tryz.f14 (by kernel_rfl) (fun _=>by simp only[SV.ren,SV.renL,dG,mR]) ?_
 conv in aJ _ _=>(reduce;simp only[aH,UInt8.reduceOfNat,Int.reduceOfNat,Int.reduceNegSucc])
 have hp:=Nat.two_pow_pos h
 have n4:2 ^ h≤4:=Nat.le_trans (Nat.pow_le_pow_right (by decide) hh) (by decide)
 have h16':2 ^ h * 2 ^ h≤4 * 4:=Nat.mul_le_mul n4 n4
 have hd:=Nat.div_le_self i (2 ^ h)
 have hd':=Nat.mod_le i (2 ^ h)
 have fw:=Sv (tS:=aO) (h:Int)
 have fc:=uT (tS:=aO) (h:Int)
 have fv:=Qw (tS:=aO) M s t R [] hR
 rw[hv] at fv
 rw[oM (by omega)] at fw fc
 have ft:=h46 seed ((i / 2 ^ h:Nat):Int) (by omega) (Sw (by omega))
 have fu:=h40 seed (by omega)
 have lT:=LT seed ((i / 2 ^ h:Nat):Int)
 have lU:=CV seed
 have hM:M.length≤12:=by have:=of_decide_eq_true hv;omega
 have fx:=Yu (tS:=aO) M s t R [] (by omega) hR rs rt
 have lx:(gZ M s t R).length≤100:=uR s t hM hR
 unfold Gs
 generalize uQ seed ((i / 2 ^ h:Nat):Int)=T at *
 generalize BS seed=U at *
 generalize gZ M s t R=X at *
 have fk:=QP eS Ga T h lT (by omega)
 have lk:=dJ h (eS T h)
 generalize dM h (eS T h)=K at *
 have fd:=f37 (tS:=aO) K lk
 have f1:=h48 U h (i / 2 ^ h) K lU (by omega) (Nat.div_lt_of_lt_mul hi) (by omega)
 have f2:=h48 T h (i % 2 ^ h) X lT (by omega) (Nat.mod_lt _ hp) (by omega)
 have s1:=kM U h (i / 2 ^ h) K hh
 have s2:=kM T h (i % 2 ^ h) X hh
 have b1:=iC (s:=mQ U h (i / 2 ^ h) K) (by omega)
 have b2:=iC (s:=mQ T h (i % 2 ^ h) X) (by omega)
 have g1:=vR (tS:=aO) (s:=mQ U h (i / 2 ^ h) K) (by omega)
 have g2:=vR (tS:=aO) (s:=mQ T h (i % 2 ^ h) X) (by omega)
 have q1:IntKind.i64.wrap ((i:Int).tdiv ((2 ^ h:Nat):Int))=((i / 2 ^ h:Nat):Int):=by
  rw[show (i:Int).tdiv ((2 ^ h:Nat):Int)=((i / 2 ^ h:Nat):Int) from rfl,Aa (by omega)]
 have q2:(i:Int).tmod ((2 ^ h:Nat):Int)=((i % 2 ^ h:Nat):Int):=rfl
 generalize mQ U h (i / 2 ^ h) K=G1 at *
 generalize mQ T h (i % 2 ^ h) X=G2 at *
 generalize bU G1=S1 at *
 generalize bU G2=S2 at *
 have fi:=Tk (tS:=aO) (n:=(i:Int)) ⟨by omega,by omega⟩
 have sp:=fun x d=>i9 (l:=[.str x]) (d:=d) hR
 have tk:=fun x=>cP (x:=x) hR
 have fl:=dH R
 have lE:=aS (i:Int)
 generalize aP (i:Int)=EI at *
 unfold dG at *
 have c1:((seed.length:Int) != 32)=false:=by rw[hs];rfl
 have c2:decide ((i:Int) ≥ ((2 ^ h:Nat):Int) * ((2 ^ h:Nat):Int))=false:=decide_eq_false (by rw[← Int.natCast_mul];omega)
 have c3:¬ (i:Int) < 0:=by omega
 generalize 2 ^ h=N at *
 have c0:((N:Int)==0)=false:=by simp;omega
 have c4:¬ (N:Int)=0:=by omega
 have m1:EI.length+16≤cH:=by unfold cH;omega
 have m1':EI.length+K.length≤cH:=by unfold cH;omega
 have m2:EI.length+16+S1.length≤cH:=by unfold cH;omega
 have m2':EI.length+K.length+S1.length≤cH:=by unfold cH;omega
 have m3:EI.length+16+S1.length+S2.length≤cH:=by unfold cH;omega
 have m3':EI.length+K.length+S1.length+S2.length≤cH:=by unfold cH;omega
 simp (maxSteps:=1000000) only [c1,NV,↓NP,reduceCtorEq,Nat.reduceEqDiff,Nat.reduceAdd,↓reduceIte]
 refine aE fw ?_
 simp (maxSteps:=1000000) only [c0,c3,NV,↓NP,reduceCtorEq,Nat.reduceEqDiff,↓reduceIte]
 refine aE fc ?_
 simp (maxSteps:=1000000) only [c2,sp,tk,hR,fl,NV,↓NP,reduceCtorEq,Nat.reduceEqDiff,Nat.reduceAdd,↓reduceIte,bC]
 refine aE fv ?_
 simp (maxSteps:=1000000) only [fl,NV,↓NP,reduceCtorEq,Nat.reduceEqDiff,↓reduceIte]
 refine aE fw ?_
 simp (maxSteps:=1000000) only [c4,q1,NV,NJ,↓NP,reduceCtorEq,Nat.reduceEqDiff,↓reduceIte]
 refine aE ft ?_
 simp (maxSteps:=1000000) only [NV,↓NP,reduceCtorEq,Nat.reduceEqDiff,↓reduceIte]
 refine aE fk ?_
 simp (maxSteps:=1000000) only [lk,NV,↓NP,reduceCtorEq,Nat.reduceEqDiff,Nat.reduceAdd,↓reduceIte,bC]
 refine aE fd ?_
 simp (maxSteps:=1000000) only [NV,↓NP,reduceCtorEq,Nat.reduceEqDiff,↓reduceIte]
 refine aE fu ?_
 simp (maxSteps:=1000000) only [c4,q1,NV,NJ,↓NP,reduceCtorEq,Nat.reduceEqDiff,↓reduceIte]
 refine aE f1 ?_
 simp (maxSteps:=1000000) only [c4,q2,tk,hR,fl,NV,NJ,↓NP,reduceCtorEq,Nat.reduceEqDiff,Nat.reduceAdd,↓reduceIte]
 refine aE fx ?_
 simp (maxSteps:=1000000) only [fl,NV,↓NP,Nat.reduceEqDiff,↓reduceIte]
 refine aE f2 ?_
 simp (maxSteps:=1000000) only [NV,↓NP,Nat.reduceEqDiff,↓reduceIte]
 refine aI [] fi ?_
 simp (maxSteps:=1000000) only [m1',NV,NJ,↓NP,Nat.reduceEqDiff,Nat.reduceAdd,Nat.reduceLeDiff,↓reduceIte]
 refine aI [] g1 ?_
 simp (maxSteps:=1000000) only [m2',NV,NJ,↓NP,Nat.reduceEqDiff,Nat.reduceAdd,Nat.reduceLeDiff,↓reduceIte]
 refine aI [] g2 ?_
 simp (maxSteps:=1000000) only [m3',sp,tk,hR,NV,NJ,↓NP,reduceCtorEq,Nat.reduceEqDiff,Nat.reduceAdd,Nat.reduceLeDiff,↓reduceIte,bC]
theorem Ql (seed:List UInt8) (ht:Int) (hx:ht≤2∨6 < ht):∃ (P:List UInt8) (e:Int),P.length=16∧Fun Tryz.prog aO 11 [.str seed,.int .i64 ht] [] 0 (.tup [.agg (aB P),.int .i64 e]) [] 0 ∧
  Fun Tryz.prog aO 12 [.str seed,.int .i64 ht] [] 0 (.tup [.agg (aB P),.int .i64 e]) [] 0:=by
 by_cases hc:seed.length≠32∨ht < 0∨6 < ht
 ·exact⟨bY,1,rfl,AAv seed ht hc,ABe seed ht hc⟩
 ·obtain⟨h,rfl⟩:=Int.eq_ofNat_of_zero_le (show 0≤ht by omega)
  have hs:seed.length=32:=by omega
  exact⟨zV seed h,0,dJ _ _,h11 seed h hs (by omega),Yw seed h hs (by omega)⟩
theorem Mn (seed:List UInt8) (ht i:Int) (M:List UInt8) (s t:Int) (R S:List UInt8) (hR:R.length=16) (rs:kJ s) (rt:kJ t) (hx:ht≤2∨6 < ht):∃ (M':List UInt8) (s' t':Int) (R' S':List UInt8) (e:Int),R'.length=16 ∧
  Fun Tryz.prog aO 13 [.str seed,.int .i64 ht,.int .i64 i,.agg (dG M s t R S)] [] 0 (.tup [.agg (dG M' s' t' R' S'),.int .i64 e]) [] 0 ∧
  Fun Tryz.prog aO 14 [.str seed,.int .i64 ht,.int .i64 i,.agg (dG M s t R S)] [] 0 (.tup [.agg (dG M' s' t' R' S'),.int .i64 e]) [] 0:=by
 by_cases hc:seed.length≠32∨ht < 0∨6 < ht
 ·exact⟨[],0,0,bY,[],1,rfl,AAw seed ht i M s t R S hR hc,ABf seed ht i M s t R S hR hc⟩
 obtain⟨h,rfl⟩:=Int.eq_ofNat_of_zero_le (show 0≤ht by omega)
 have hs:seed.length=32:=by omega
 have hh:h≤2:=by omega
 by_cases hi:i < 0∨jH (h:Int) * jH (h:Int)≤i
 ·exact⟨[],0,0,bY,[],22,rfl,YP seed h i M s t R S hR hs (by omega) hi,ABg seed h i M s t R S hR hs (by omega) hi⟩
 rw[not_or] at hi
 by_cases hv:nT M s t []=true
 ·obtain⟨j,rfl⟩:=Int.eq_ofNat_of_zero_le (show 0≤i by omega)
  have hj:j < 2 ^ h * 2 ^ h:=by
   have:=hi.2
   rw[oM (by omega),← Int.natCast_mul] at this
   omega
  exact⟨M,s,t,R,Gs seed h j M s t R,0,hR,ZM seed h j M s t R S hR hs hh hj hv,h14 seed h j M s t R S hR hs hh hj hv rs rt⟩
 ·have hv:nT M s t []=false:=by simpa using hv
  exact⟨[],0,0,bY,[],1,rfl,AAx seed h i M s t R S hR hs (by omega) (by omega) (by omega) hv,ABh seed h i M s t R S hR hs (by omega) (by omega) (by omega) hv⟩
theorem h3 (seed:List UInt8) (ht i:Int) (M:List UInt8) (s t:Int) (R S:List UInt8) (hR:R.length=16) (rs:kJ s) (rt:kJ t) :
  Fun Tryz.prog aO 3 [.str seed,.agg [.int .i64 ht,.int .i64 i],.agg (dG M s t R S)] [] 0 (.bool true) [] 0:=by
 refine dK Tryz.f3 (by kernel_rfl) (fun _=>rfl) ?_
 conv in aJ _ _=>(reduce;simp only[aH,seval])
 have fa:=Qx (tS:=aO) M s t R S hR
 have tk:=fun x=>cP (x:=x) hR
 have fl:=dH R
 by_cases q1:(seed.length:Int) > 100
 ·unfold dG at *
  simp only[NV,↓NP,seval]
  refine aE h9 ?_
  simp only[q1,NV,↓NP,undef,seval]
 by_cases Ta:ht > 2∧ht≤6
 ·obtain⟨c1,c2⟩:=Ta
  unfold dG at *
  simp only[NV,↓NP,seval]
  refine aE h9 ?_
  simp only[q1,c1,c2,NV,↓NP,undef,seval]
 have cA:(ht > 2)=False∨((ht > 2)=True∧(ht≤6)=False):=by
  by_cases q:ht > 2
  ·exact .inr ⟨eq_true q,eq_false fun h=>Ta ⟨q,h⟩⟩
  ·exact .inl (eq_false q)
 by_cases hfa:M.length≤100∧S.length≤4000
 case neg=>
  rw[show (decide (M.length≤100) && decide (S.length≤4000))=false by simp;omega] at fa
  unfold dG at *
  rcases cA with c1|⟨c1,c2⟩
  ·simp only[NV,↓NP,seval]
   refine aE h9 ?_
   simp only[hR,tk,fl,q1,c1,NV,↓NP,undef,seval]
   refine aE fa ?_
   simp only[fl,NV,↓NP,seval]
  ·simp only[NV,↓NP,seval]
   refine aE h9 ?_
   simp only[hR,tk,fl,q1,c1,c2,NV,↓NP,seval]
   refine aE fa ?_
   simp only[fl,NV,↓NP,seval]
 rw[decide_eq_true hfa.1,decide_eq_true hfa.2,Bool.and_self] at fa
 obtain⟨P,e,lP,p1,p2⟩:=Ql seed ht (by omega)
 obtain⟨M',s',t',R',S',e',hR',k1,k2⟩:=Mn seed ht i M s t R S hR rs rt (by omega)
 have w1:=S7 (tS:=aO) ht
 have w2:=uT (tS:=aO) ht
 have v1:=LQ (tS:=aO) M s t R S hR
 have v2:=Qw (tS:=aO) M s t R S hR
 have x1:=Vr (tS:=aO) M s t R S (by omega) hR
 have x2:=Yu (tS:=aO) M s t R S (by omega) hR rs rt
 have eP:=lN lP lP
 have eR:=Qk R' S' R' S' hR' hR'
 simp only[beq_self_eq_true,Bool.and_true] at eP eR
 have tk':=fun x=>cP (x:=x) hR'
 have fl':=dH R'
 generalize jH ht * jH ht=W at *
 generalize nT M s t S=V at *
 generalize gZ M s t R=X at *
 unfold dG at *
 rcases cA with c1|⟨c1,c2⟩
 ·simp only[NV,↓NP,seval]
  refine aE h9 ?_
  simp only[hR,tk,fl,q1,c1,NV,↓NP,undef,seval]
  refine aE fa ?_
  simp only[fl,NV,↓NP,seval]
  refine aE p1 ?_
  simp only[lP,NV,↓NP,bC,seval]
  refine aE p2 ?_
  simp only[hR,lP,tk,fl,NV,↓NP,bC,seval]
  refine aE k1 ?_
  simp only[hR,hR',tk,fl,fl',NV,↓NP,bC,seval]
  refine aE k2 ?_
  simp only[hR',lP,tk',fl,fl',eP,eR,NV,↓NP,eF,nD,bC,seval]
  refine aE w1 ?_
  simp only[NV,↓NP,seval]
  refine aE w2 ?_
  simp only[hR,tk,fl,NV,↓NP,seval]
  refine aE v1 ?_
  simp only[hR,tk,fl,NV,↓NP,seval]
  refine aE v2 ?_
  simp only[hR,tk,fl,NV,↓NP,seval]
  refine aE x1 ?_
  simp only[hR,tk,fl,NV,↓NP,seval]
  refine aE x2 ?_
  simp only[fl,NV,↓NP,seval]
 ·simp only[NV,↓NP,seval]
  refine aE h9 ?_
  simp only[hR,tk,fl,q1,c1,c2,NV,↓NP,seval]
  refine aE fa ?_
  simp only[fl,NV,↓NP,seval]
  refine aE p1 ?_
  simp only[lP,NV,↓NP,bC,seval]
  refine aE p2 ?_
  simp only[hR,lP,tk,fl,NV,↓NP,bC,seval]
  refine aE k1 ?_
  simp only[hR,hR',tk,fl,fl',NV,↓NP,bC,seval]
  refine aE k2 ?_
  simp only[hR',lP,tk',fl,fl',eP,eR,NV,↓NP,eF,nD,bC,seval]
  refine aE w1 ?_
  simp only[NV,↓NP,seval]
  refine aE w2 ?_
  simp only[hR,tk,fl,NV,↓NP,seval]
  refine aE v1 ?_
  simp only[hR,tk,fl,NV,↓NP,seval]
  refine aE v2 ?_
  simp only[hR,tk,fl,NV,↓NP,seval]
  refine aE x1 ?_
  simp only[hR,tk,fl,NV,↓NP,seval]
  refine aE x2 ?_
  simp only[fl,NV,↓NP,seval]
end Go.Proofs.YtmhkkalbijbplaaGreatDoor
