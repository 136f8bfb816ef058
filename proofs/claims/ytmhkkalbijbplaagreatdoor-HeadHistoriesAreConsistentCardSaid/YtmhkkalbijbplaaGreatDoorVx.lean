/- The proof, part Vx: RfA, RfB, RfC, LwB. -/
import Derived.Test.YtmhkkalbijbplaaGreatDoorVw
set_option linter.unusedSimpArgs false
set_option linter.unusedVariables false
set_option maxRecDepth 100000
set_option maxHeartbeats 16000000
namespace Go.Proofs.YtmhkkalbijbplaaGreatDoor
open Go Go.Sx
variable {tS:List (Nat × List SV)}
theorem Sv (h:Int):Fun Tryz.prog tS 38 [.int .i64 h] [] 0 (.int .i64 (jH h)) [] 0:=by
 refine dK Tryz.f38 (by kernel_rfl) (fun _=>rfl) ?_
 conv in aJ _ _=>(reduce;simp only[aH,UInt8.reduceOfNat,Int.reduceOfNat,Int.reduceNegSucc])
 unfold jH
 by_cases h0:h < 0
 ·have c:¬ (0≤h∧h≤6):=by omega
  simp (maxSteps:=1000000) only [h0,c,NV,↓NP,undef,reduceCtorEq,Nat.reduceEqDiff,↓reduceIte]
 by_cases h6:h > 6
 ·have c:¬ (0≤h∧h≤6):=by omega
  simp (maxSteps:=1000000) only [h0,h6,c,NV,↓NP,reduceCtorEq,Nat.reduceEqDiff,↓reduceIte]
 have c:0≤h∧h≤6:=by omega
 have e:=G6 c.1 c.2
 simp (maxSteps:=1000000) only [h0,h6,c,e,NV,↓NP,reduceCtorEq,Nat.reduceEqDiff,↓reduceIte]
theorem uT (h:Int):Fun Tryz.prog tS 16 [.int .i64 h] [] 0 (.int .i64 (jH h * jH h)) [] 0:=by
 refine dK Tryz.f16 (by kernel_rfl) (fun _=>rfl) ?_
 conv in aJ _ _=>(reduce;simp only[aH,UInt8.reduceOfNat,Int.reduceOfNat,Int.reduceNegSucc])
 have e:=LS h
 have fw:=Sv (tS:=tS) h
 generalize jH h=W at *
 simp (maxSteps:=1000000) only [NV,↓NP,reduceCtorEq,↓reduceIte]
 refine aE fw ?_
 simp (maxSteps:=1000000) only [NV,↓NP,reduceCtorEq,Nat.reduceEqDiff,↓reduceIte]
 refine aE fw ?_
 simp (maxSteps:=1000000) only [e,NV,↓NP,Nat.reduceEqDiff,↓reduceIte]
theorem Qx (M:List UInt8) (s t:Int) (R S:List UInt8) (hR:R.length=16):Fun Tryz.prog tS 10 [.agg (dG M s t R S)] [] 0 (.bool (decide (M.length≤100) && decide (S.length≤4000))) [] 0:=by
 refine dK Tryz.f10 (by kernel_rfl) (fun _=>rfl) ?_
 conv in aJ _ _=>(reduce;simp only[aH,UInt8.reduceOfNat,Int.reduceOfNat,Int.reduceNegSucc])
 have g:=zU (l:=[.str S]) hR
 unfold dG
 by_cases h1:(M.length:Int)≤100
 ·have c1:decide (M.length≤100)=true:=decide_eq_true (by omega)
  by_cases h2:(S.length:Int)≤4000
  ·have c2:decide (S.length≤4000)=true:=decide_eq_true (by omega)
   simp (maxSteps:=1000000) only [g,h1,h2,c1,c2,NV,↓NP,reduceCtorEq,Nat.reduceEqDiff,↓reduceIte]
  ·have c2:decide (S.length≤4000)=false:=decide_eq_false (by omega)
   simp (maxSteps:=1000000) only [g,h1,h2,c1,c2,NV,↓NP,reduceCtorEq,Nat.reduceEqDiff,↓reduceIte]
 ·have c1:decide (M.length≤100)=false:=decide_eq_false (by omega)
  simp (maxSteps:=1000000) only [h1,c1,Bool.false_and,NV,↓NP,undef,reduceCtorEq,Nat.reduceEqDiff,↓reduceIte]
theorem vR {s:List UInt8} (h:s.length≤2 ^ 39):Fun Tryz.prog tS 50 [.str s] [] 0 (.slc 0 0 1 (bU s).length none) [(0,⟨.own 5,aB (bU s)⟩)] 1:=by
 have:=f36 (tS:=tS) s h
 rwa [IE h] at this
theorem Qh {s t:Int} (hs:kJ s) (ht:kJ t):Fun Tryz.prog tS 52 [.slc 0 0 1 2 none] [(0,⟨.view,[.int .i64 s,.int .i64 t]⟩)] 1 (.slc 1 0 1 (i8 [s,t]).length none) [(1,⟨.own 5,aB (i8 [s,t])⟩)] 2:=by
 have e:zL [s,t]=i8 [s,t]:=by
  unfold zL i8
  simp only[Bf,vJ]
  rw[qW hs,qW ht,qW (show kJ ((([s,t]:List Int).length:Nat):Int) from ⟨by simp,by simp⟩)]
 have h:=f35 (tS:=tS) [s,t] (by show 2≤1000;decide) none
 rw[e] at h
 exact h
theorem Yu (M:List UInt8) (s t:Int) (R S:List UInt8) (hM:M.length≤2 ^ 20) (hR:R.length=16) (hs:kJ s) (ht:kJ t):Fun Tryz.prog tS 20 [.agg (dG M s t R S)] [] 0 (.str (gZ M s t R)) [] 0:=by
 refine dK Tryz.f20 (by kernel_rfl) (fun _=>rfl) ?_
 conv in aJ _ _=>(reduce;simp only[aH,UInt8.reduceOfNat,Int.reduceOfNat,Int.reduceNegSucc])
 have l1:=iC (s:=[104,101,97,100]) (by decide)
 have l2:=iC hM
 have l3:=oL s t
 have tl:=iD (l:=[.str S]) hR
 have b1:=vR (tS:=tS) (s:=[104,101,97,100]) (by decide)
 have b2:=vR (tS:=tS) (s:=M) (by omega)
 have fi:=Qh (tS:=tS) hs ht
 have fd:=f37 (tS:=tS) R hR
 unfold dG gZ
 generalize bU [104,101,97,100]=A at *
 generalize bU M=B at *
 generalize i8 [s,t]=C at *
 have m1:A.length+B.length≤cH:=by unfold cH;omega
 have m2:A.length+B.length+C.length≤cH:=by unfold cH;omega
 have m3:A.length+B.length+C.length+R.length≤cH:=by unfold cH;omega
 simp (maxSteps:=1000000) only [NV,↓NP,reduceCtorEq,Nat.reduceEqDiff,↓reduceIte]
 refine aI [] b1 ?_
 simp (maxSteps:=1000000) only [NV,NJ,↓NP,Nat.reduceEqDiff,Nat.reduceAdd,Nat.reduceLeDiff,↓reduceIte]
 refine aI [] b2 ?_
 simp (maxSteps:=1000000) only [m1,NV,NJ,↓NP,reduceCtorEq,Nat.reduceEqDiff,Nat.reduceAdd,Nat.reduceLeDiff,↓reduceIte]
 refine aI [(3,0)] fi ?_
 simp (maxSteps:=1000000) only [m2,hR,tl,NV,NJ,↓NP,reduceCtorEq,Nat.reduceEqDiff,Nat.reduceAdd,Nat.reduceSub,Nat.reduceLeDiff,Nat.reduceLT,↓reduceIte]
 refine aE fd ?_
 simp (maxSteps:=1000000) only [hR,NV,↓NP,Nat.reduceEqDiff,↓reduceIte]
 rw[← hR];exact m3
theorem h30 (M:List UInt8) (s t:Int) (R S:List UInt8) (hM:M.length≤2 ^ 20) (hS:S.length≤2 ^ 20) (hR:R.length=16) (hs:kJ s) (ht:kJ t):Fun Tryz.prog tS 30 [.agg (dG M s t R S)] [] 0 (.str (pE M s t R S)) [] 0:=by
 refine dK Tryz.f30 (by kernel_rfl) (fun _=>rfl) ?_
 conv in aJ _ _=>(reduce;simp only[aH,UInt8.reduceOfNat,Int.reduceOfNat,Int.reduceNegSucc])
 have l2:=iC hM
 have l3:=oL s t
 have l4:=iC hS
 have tl:=iD (l:=[.str S]) hR
 have g:=zU (l:=[.str S]) hR
 have b1:=vR (tS:=tS) (s:=M) (by omega)
 have b2:=vR (tS:=tS) (s:=S) (by omega)
 have fi:=Qh (tS:=tS) hs ht
 have fd:=f37 (tS:=tS) R hR
 unfold dG pE
 generalize bU M=A at *
 generalize bU S=B at *
 generalize i8 [s,t]=C at *
 have m1:A.length+C.length≤cH:=by unfold cH;omega
 have m2:A.length+C.length+R.length≤cH:=by unfold cH;omega
 have m3:A.length+C.length+R.length+B.length≤cH:=by unfold cH;omega
 simp (maxSteps:=1000000) only [NV,↓NP,reduceCtorEq,Nat.reduceEqDiff,↓reduceIte]
 refine aI [] b1 ?_
 simp (maxSteps:=1000000) only [NV,NJ,↓NP,Nat.reduceEqDiff,Nat.reduceAdd,Nat.reduceLeDiff,↓reduceIte]
 refine aI [(2,0)] fi ?_
 simp (maxSteps:=1000000) only [m1,tl,hR,NV,NJ,↓NP,reduceCtorEq,Nat.reduceEqDiff,Nat.reduceAdd,Nat.reduceSub,Nat.reduceLeDiff,Nat.reduceLT,↓reduceIte]
 refine aE fd ?_
 simp (maxSteps:=1000000) only [m2,g,NV,↓NP,reduceCtorEq,Nat.reduceEqDiff,↓reduceIte]
 refine aI [] b2 ?_
 simp (maxSteps:=1000000) only [m3,NV,NJ,↓NP,Nat.reduceEqDiff,Nat.reduceAdd,Nat.reduceLeDiff,↓reduceIte]
theorem Lk (b:List UInt8):(Du b,Gt b) =
  (if (cJ b).2.2≠0 then ((cJ b).2.2,y7) else
   if (xN (b.drop (cJ b).2.1) 0 0).2.2.2≠0 then ((xN (b.drop (cJ b).2.1) 0 0).2.2.2,y7) else
   if (b.drop ((cJ b).2.1+(xN (b.drop (cJ b).2.1) 0 0).2.2.1)).length < 16 then (5,y7) else
   if (cJ (b.drop ((cJ b).2.1+(xN (b.drop (cJ b).2.1) 0 0).2.2.1+16))).2.2≠0 then ((cJ (b.drop ((cJ b).2.1+(xN (b.drop (cJ b).2.1) 0 0).2.2.1+16))).2.2,y7) else
   if 16+(cJ (b.drop ((cJ b).2.1+(xN (b.drop (cJ b).2.1) 0 0).2.2.1+16))).2.1≠(b.drop ((cJ b).2.1+(xN (b.drop (cJ b).2.1) 0 0).2.2.1)).length ∨
     nT (cJ b).1 (xN (b.drop (cJ b).2.1) 0 0).1 (xN (b.drop (cJ b).2.1) 0 0).2.1 (cJ (b.drop ((cJ b).2.1+(xN (b.drop (cJ b).2.1) 0 0).2.2.1+16))).1=false then (6,y7) else
   (0,dG (cJ b).1 (xN (b.drop (cJ b).2.1) 0 0).1 (xN (b.drop (cJ b).2.1) 0 0).2.1 ((b.drop ((cJ b).2.1+(xN (b.drop (cJ b).2.1) 0 0).2.2.1)).take 16) (cJ (b.drop ((cJ b).2.1+(xN (b.drop (cJ b).2.1) 0 0).2.2.1+16))).1)):=by
 have ne:∀ (l:Nat) (e:Int) (v:Bool),e≠0→pK l e v=e:=fun l e v h=>by unfold pK;rw[if_neg (fun q=>h q.1)]
 have z:¬ ((0:Int)≠0):=fun h=>h rfl
 unfold Gt Du BT
 simp only
 rcases hA:cJ b with⟨x,ua,ea⟩
 have u1:=mS hA
 simp only
 by_cases c1:ea=0
 case neg=>
  rw[if_pos c1,if_pos c1,ne _ _ _ c1,if_neg c1]
 have u1:=u1 c1
 subst c1
 simp only[if_neg z]
 have u2:=Js (b.drop ua) 0 0
 rcases hD:xN (b.drop ua) 0 0 with⟨v1,v2,ud,ed⟩
 rw[hD] at u2
 rw[List.length_drop] at u2
 simp only at *
 by_cases c2:ed=0
 case neg=>
  rw[if_pos c2,if_pos c2,ne _ _ _ c2,if_neg c2]
 subst c2
 simp only[if_neg z]
 simp only[List.length_drop]
 by_cases c3:b.length - (ua+ud) < 16
 ·have e:vZ (b.drop (ua+ud))=(Ab (b.drop (ua+ud)),0,5):=by unfold vZ;rw[if_pos (by rw[List.length_drop];exact c3)]
  rw[e]
  simp only
  rw[if_pos (show (5:Int)≠0 by decide),if_pos c3]
  simp only
  rw[ne _ _ _ (show (5:Int)≠0 by decide),if_neg (show ¬ (5:Int)=0 by decide)]
 ·have e:vZ (b.drop (ua+ud))=((b.drop (ua+ud)).take 16,16,0):=by unfold vZ;rw[if_neg (by rw[List.length_drop];exact c3)]
  rw[e,if_neg c3]
  simp only[if_neg z]
  rcases hT:cJ (b.drop (ua+ud+16)) with⟨t,ut,et⟩
  have u4:=mS hT
  rw[List.length_drop] at u4
  simp only
  by_cases c4:et=0
  case neg=>
    rw[if_pos c4,ne _ _ _ c4,if_neg c4]
  have u4:=u4 c4
  subst c4
  simp only[if_neg z,v9,if_true]
  unfold pK
  by_cases c5:16+ut≠b.length - (ua+ud)∨nT x v1 v2 t=false
  ·have c6:(0:Int)=0∧(0 < b.length - (ua+ud+16+ut)∨nT x v1 v2 t=false):=by
    refine⟨rfl,?_⟩
    rcases c5 with h|h
    ·left;omega
    ·right;exact h
   rw[if_pos c5,if_pos c6,if_neg (by decide)]
  ·have c6:¬ ((0:Int)=0∧(0 < b.length - (ua+ud+16+ut)∨nT x v1 v2 t=false)):=by
    rintro⟨_,h⟩
    rcases h with h|h
    ·exact c5 (.inl (by omega))
    ·exact c5 (.inr h)
   rw[if_neg c5,if_neg c6,if_pos rfl]
def JO (d:List UInt8) (i:Nat):List UInt8:=d.take i++List.replicate (16 - i) 0
theorem Ll {d:List UInt8} (hd:16≤d.length) {i:Nat} (hi:i≤16):(JO d i).length=16:=by
 simp[JO];omega
theorem Qi (d:List UInt8):JO d 16=d.take 16:=by simp[JO]
theorem Lm {d:List UInt8} (hd:16≤d.length) {i:Nat} (hi:i < 16) {c:UInt8} (hc:d[i]?=some c) (l:List SV):aF (aB (JO d i)++l) i [SV.byte c]=aB (JO d (i+1))++l:=by
 have h1:(d.take i).length=i:=by rw[List.length_take];omega
 have e1:JO d i=d.take i++(0 :: List.replicate (16 - (i+1)) 0):=by
  unfold JO
  rw[show 16 - i=(16 - (i+1))+1 by omega,List.replicate_succ]
 have e2:JO d (i+1)=d.take i++(c :: List.replicate (16 - (i+1)) 0):=by
  unfold JO
  rw[List.take_add_one,hc]
  simp
 unfold aF
 rw[e1,e2]
 have hb:∀ x:List UInt8,aB (d.take i++x)++l=aB (d.take i)++(aB x++l):=fun x=>by simp[aB]
 rw[hb,hb,List.take_left' (by rw[aA,h1])]
 rw[List.append_assoc]
 congr 1
 rw[show i+[SV.byte c].length=i+1 from rfl,List.drop_append,aA,h1,List.drop_of_length_le (by rw[aA,h1];omega)]
 simp[aB]
theorem AA4 (b:List UInt8) (hb:b.length≤2 ^ 36) (x:List UInt8) (ua:Nat) (ea:Int) (hA:cJ b=(x,ua,ea)) (c1:ea≠0) :
  Fun Tryz.prog aO 29 [.str b] [] 0 (.tup [.agg y7,.int .i64 ea]) [] 0:=by
 refine dK Tryz.f29 (by kernel_rfl) (fun η=>rfl) ?_
 conv in aJ _ _=>(reduce;simp only[aH,seval])
 have f1:=f49 (tS:=aO) b (by omega)
 rw[hA] at f1
 unfold j9 at f1
 have z1:(ea != 0)=true:=by simpa using c1
 simp only[NV,↓NP,seval]
 refine aI [(1,0)] f1 ?_
 simp only[z1,NV,NJ,↓NP,bC,seval]
 rfl
theorem AA5 (b:List UInt8) (hb:b.length≤2 ^ 36) (x:List UInt8) (ua:Nat) (hA:cJ b=(x,ua,0)) (hu:ua≤b.length) (l:List Int) (ud:Nat) (ed:Int) (hD:eU (b.drop ua)=(l,ud,ed)) (c2:ed≠0) :
  Fun Tryz.prog aO 29 [.str b] [] 0 (.tup [.agg y7,.int .i64 ed]) [] 0:=by
 refine dK Tryz.f29 (by kernel_rfl) (fun η=>rfl) ?_
 conv in aJ _ _=>(reduce;simp only[aH,seval])
 have f1:=f49 (tS:=aO) b (by omega)
 rw[hA] at f1
 unfold j9 at f1
 have f2:=f48 (tS:=aO) (b.drop ua) (by rw[List.length_drop];omega)
 rw[hD] at f2
 unfold rI at f2
 simp only[List.length_drop] at f2
 have q1:List.take (b.length - ua) (List.drop ua (aB b))=aB (b.drop ua):=by rw[nW];exact List.take_of_length_le (by rw[aA,List.length_drop];omega)
 have q2:ua+(b.length - ua)≤b.length:=by omega
 have q3:(ua:Int)≤(b.length:Int):=by omega
 have q4:(0:Int)≤(ua:Int):=by omega
 have z1:(ed != 0)=true:=by simpa using c2
 rcases hk:l.length with _|k
 ·rw[hk] at f2
  simp only[NV,↓NP,seval]
  refine aI [(1,0)] f1 ?_
  simp only[q3,q4,NV,NJ,↓NP,seval]
  refine aI [(1,ua)] f2 ?_
  simp only[z1,q1,q2,List.length_drop,NV,NJ,↓NP,bC,seval]
  rfl
 ·rw[hk] at f2
  simp only[NV,↓NP,seval]
  refine aI [(1,0)] f1 ?_
  simp only[q3,q4,NV,NJ,↓NP,seval]
  refine aI [(1,ua)] f2 ?_
  simp only[z1,q1,q2,List.length_drop,NV,NJ,↓NP,bC,seval]
  rfl
theorem AA6 (b:List UInt8) (hb:b.length≤2 ^ 36) (x:List UInt8) (ua:Nat) (hA:cJ b=(x,ua,0)) (hu:ua≤b.length) (l:List Int) (ud:Nat) (hD:eU (b.drop ua)=(l,ud,0)) (c2:l.length≠2) :
  Fun Tryz.prog aO 29 [.str b] [] 0 (.tup [.agg y7,.int .i64 6]) [] 0:=by
 refine dK Tryz.f29 (by kernel_rfl) (fun η=>rfl) ?_
 conv in aJ _ _=>(reduce;simp only[aH,seval])
 have f1:=f49 (tS:=aO) b (by omega)
 rw[hA] at f1
 unfold j9 at f1
 have f2:=f48 (tS:=aO) (b.drop ua) (by rw[List.length_drop];omega)
 rw[hD] at f2
 unfold rI at f2
 simp only[List.length_drop] at f2
 have q1:List.take (b.length - ua) (List.drop ua (aB b))=aB (b.drop ua):=by rw[nW];exact List.take_of_length_le (by rw[aA,List.length_drop];omega)
 have q2:ua+(b.length - ua)≤b.length:=by omega
 have q3:(ua:Int)≤(b.length:Int):=by omega
 have q4:(0:Int)≤(ua:Int):=by omega
 rcases hk:l.length with _|k
 ·rw[hk] at f2
  simp only[NV,↓NP,seval]
  refine aI [(1,0)] f1 ?_
  simp only[q3,q4,NV,NJ,↓NP,seval]
  refine aI [(1,ua)] f2 ?_
  simp only[q1,q2,List.length_drop,NV,NJ,↓NP,bC,seval]
  rfl
 ·rw[hk] at f2 c2
  have z1:(((k+1:Nat):Int) != 2)=true:=by simp;omega
  simp only[NV,↓NP,seval]
  refine aI [(1,0)] f1 ?_
  simp only[q3,q4,NV,NJ,↓NP,seval]
  refine aI [(1,ua)] f2 ?_
  simp only[z1,q1,q2,List.length_drop,NV,NJ,↓NP,bC,seval]
  rfl
theorem AA7 (b:List UInt8) (hb:b.length≤2 ^ 36) (x:List UInt8) (ua:Nat) (hA:cJ b=(x,ua,0)) (hu:ua≤b.length) (v1 v2:Int) (ud:Nat) (hD:eU (b.drop ua)=([v1,v2],ud,0)) (hud:ud≤b.length - ua) (c3:b.length - (ua+ud) < 16) :
  Fun Tryz.prog aO 29 [.str b] [] 0 (.tup [.agg y7,.int .i64 5]) [] 0:=by
 refine dK Tryz.f29 (by kernel_rfl) (fun η=>rfl) ?_
 conv in aJ _ _=>(reduce;simp only[aH,seval])
 have f1:=f49 (tS:=aO) b (by omega)
 rw[hA] at f1
 unfold j9 at f1
 have f2:=f48 (tS:=aO) (b.drop ua) (by rw[List.length_drop];omega)
 rw[hD] at f2
 unfold rI at f2
 simp only[List.length_drop] at f2
 have q1:List.take (b.length - ua) (List.drop ua (aB b))=aB (b.drop ua):=by rw[nW];exact List.take_of_length_le (by rw[aA,List.length_drop];omega)
 have q2:ua+(b.length - ua)≤b.length:=by omega
 have q3:(ua:Int)≤(b.length:Int):=by omega
 have q4:(0:Int)≤(ua:Int):=by omega
 have w1:ud≤b.length - ua:=hud
 have q5:(ud:Int)≤((b.length - ua:Nat):Int):=by omega
 have q6:(0:Int)≤(ud:Int):=by omega
 have q7:((b.length - (ua+ud):Nat):Int) < 16:=by omega
 simp only[NV,↓NP,seval]
 refine aI [(1,0)] f1 ?_
 simp only[q3,q4,NV,NJ,↓NP,seval]
 refine aI [(1,ua)] f2 ?_
 simp only[q1,q2,q5,q6,q7,List.length_drop,Nat.sub_sub,NV,NJ,↓NP,bC,seval]
 rfl
theorem AA8 (b:List UInt8) (hb:b.length≤2 ^ 36) (x:List UInt8) (ua:Nat) (hA:cJ b=(x,ua,0)) (hu:ua≤b.length) (v1 v2:Int) (ud:Nat) (hD:eU (b.drop ua)=([v1,v2],ud,0)) (hud:ud≤b.length - ua) (c3:¬ b.length - (ua+ud) < 16) (t:List UInt8) (ut:Nat) (et:Int) (hT:cJ (b.drop (ua+ud+16))=(t,ut,et)) :
  Fun Tryz.prog aO 29 [.str b] [] 0 (if et≠0 then .tup [.agg y7,.int .i64 et] else if 16+ut≠b.length - (ua+ud)∨nT x v1 v2 t=false then .tup [.agg y7,.int .i64 6] else .tup [.agg (dG x v1 v2 ((b.drop (ua+ud)).take 16) t),.int .i64 0]) [] 0:=by
 refine dK Tryz.f29 (by kernel_rfl) (fun η=>by
  split
  ·rfl
  split
  ·rfl
  ·simp only[SV.ren,SV.renL,dG,mR]) ?_
 conv in aJ _ _=>(reduce;simp only[aH,seval])
 have f1:=f49 (tS:=aO) b (by omega)
 rw[hA] at f1
 unfold j9 at f1
 have f2:=f48 (tS:=aO) (b.drop ua) (by rw[List.length_drop];omega)
 rw[hD] at f2
 unfold rI at f2
 simp only[List.length_drop] at f2
 have q1:List.take (b.length - ua) (List.drop ua (aB b))=aB (b.drop ua):=by rw[nW];exact List.take_of_length_le (by rw[aA,List.length_drop];omega)
 have q2:ua+(b.length - ua)≤b.length:=by omega
 have q3:(ua:Int)≤(b.length:Int):=by omega
 have q4:(0:Int)≤(ua:Int):=by omega
 have w1:ud≤b.length - ua:=hud
 have q5:(ud:Int)≤((b.length - ua:Nat):Int):=by omega
 have q6:(0:Int)≤(ud:Int):=by omega
 have q7:¬ ((b.length - (ua+ud):Nat):Int) < 16:=by omega
 have lz:bY.length=16:=rfl
 simp only[d9,List.map_cons,List.map_nil] at f2
 simp only[NV,↓NP,seval]
 refine aI [(1,0)] f1 ?_
 simp only[q3,q4,NV,NJ,↓NP,seval]
 refine aI [(1,ua)] f2 ?_
 simp only[q1,q2,q5,q6,q7,List.length_drop,Nat.sub_sub,NV,NJ,↓NP,bC,seval]
 rw[aL]
 have ld:(b.drop (ua+ud)).length=b.length - (ua+ud):=List.length_drop
 refine bF (fun _ _ _ _ _ h=>h) (σ:=Nat) (fun i=>[(12,.int .i64 (i:Int)),(11,.ptr 3 0),(4,.slc 1 (ua+ud) 1 (b.length - (ua+ud)) none),(2,.ptr 0 0)])
  (fun i=>[(3,⟨.own 26,.str x :: .int .i64 v1 :: .int .i64 v2 :: (aB (JO (b.drop (ua+ud)) i)++[.str []])⟩),(1,⟨.own 5,aB b⟩),(0,⟨.own 26,y7⟩)]) (fun _=>4) (fun i=>i≤16) (fun i=>16 - i) 0 ?_ (Nat.zero_le _) ?_
 ·exact⟨[(0,0),(1,0),(2,0),(3,0)],by simp[NF,seval];exact⟨rfl,rfl⟩,by simp[NF,seval]⟩
 intro i hi
 have lc:=Ll (d:=b.drop (ua+ud)) (by omega) hi
 have rt:=fun η R x=>mR η R x
 by_cases uT:i < 16
 ·obtain⟨c,hc⟩:∃ c,(b.drop (ua+ud))[i]?=some c:=⟨_,List.getElem?_eq_getElem (by omega)⟩
  have hg:(aB b)[ua+ud+i]?=some (.int .u8 (c.toNat:Int)):=by
   rw[List.getElem?_drop] at hc
   exact Fs hc
  have sp3:aF (.str x :: .int .i64 v1 :: .int .i64 v2 :: (aB (JO (b.drop (ua+ud)) i)++[.str []])) (3+i) [.int .u8 (c.toNat:Int)]=.str x :: .int .i64 v1 :: .int .i64 v2 :: (aB (JO (b.drop (ua+ud)) (i+1))++[.str []]):=by
   rw[show 3+i=i+1+1+1 by omega,qE,qE,qE]
   exact congrArg (fun z=>SV.str x :: SV.int .i64 v1 :: SV.int .i64 v2 :: z) (Lm (by omega) uT hc [.str []])
  have c1:(i:Int) < 16:=by omega
  have c2:(0:Int)≤(i:Int):=by omega
  have c4:(i:Int) < ((b.length - (ua+ud):Nat):Int):=by omega
  have v4:IntKind.i64.wrap ((i:Int)+1)=((i+1:Nat):Int):=by rw[aD (by omega) (by omega)];omega
  simp only[c1,c2,c4,v4,hg,sp3,lc,NV,↓NP,bC,seval]
  exact⟨by omega,by omega,i+1,⟨[(0,0),(1,0),(2,0),(3,0)],by simp[rt,NF,seval];rfl,by simp[NF,seval]⟩,by omega,by omega⟩
 ·obtain rfl:i=16:=by omega
  rw[Qi]
  have f4:=f49 (tS:=aO) (b.drop (ua+ud+16)) (by rw[List.length_drop];omega)
  rw[hT] at f4
  unfold j9 at f4
  simp only[List.length_drop] at f4
  have p1:ua+ud+(b.length - (ua+ud))≤b.length:=by omega
  have p2:(16:Int)≤((b.length - (ua+ud):Nat):Int):=by omega
  have p3:List.take (b.length - (ua+ud+16)) (List.drop (ua+ud+16) (aB b))=aB (b.drop (ua+ud+16)):=by rw[nW];exact List.take_of_length_le (by rw[aA,List.length_drop];omega)
  have p4:ua+ud+16+(b.length - (ua+ud+16))≤b.length:=by omega
  have lR:((b.drop (ua+ud)).take 16).length=16:=by rw[List.length_take];omega
  have fv:=Qw (tS:=aO) x v1 v2 ((b.drop (ua+ud)).take 16) t lR
  have tk:=fun x=>cP (x:=x) lR
  have fl:=dH ((b.drop (ua+ud)).take 16)
  have sp:=fun (x:List UInt8) d=>i9 (l:=[.str x]) (d:=d) lR
  have p5:b.length - (ua+ud) - 16=b.length - (ua+ud+16):=by omega
  have ut40:ut≤2 ^ 40:=by
   by_cases q:et=0
   ·subst q
    have:=mS hT rfl
    rw[List.length_drop] at this;omega
   ·have:ut=0:=by
     unfold cJ at hT
     split at hT
     ·simp only[Prod.mk.injEq] at hT;exact hT.2.1.symm
     ·simp only[Prod.mk.injEq] at hT;exact absurd hT.2.2.symm q
    omega
  have wr:IntKind.i64.wrap (16+(ut:Int))=((16+ut:Nat):Int):=by rw[aD (by omega) (by omega)];omega
  generalize (b.drop (ua+ud)).take 16=R at *
  unfold dG at *
  by_cases e0:et=0
  case neg=>
   have z1:(et != 0)=true:=by simpa using e0
   rw[if_pos e0]
   simp only[p1,p2,p5,NV,↓NP,seval]
   refine aI [(1,ua+ud+16)] f4 ?_
   simp only[p3,p4,z1,List.length_drop,NV,NJ,↓NP,bC,seval]
   exact⟨by decide,by decide,rfl⟩
  subst e0
  rw[if_neg (fun h=>h rfl)]
  generalize hV:nT x v1 v2 t=V at *
  by_cases c5:16+ut=b.length - (ua+ud)
  case neg=>
   have z5:(((16+ut:Nat):Int) != ((b.length - (ua+ud):Nat):Int))=true:=by
    rw[bne_iff_ne];omega
   rw[if_pos (.inl c5)]
   simp only[p1,p2,p5,NV,↓NP,seval]
   refine aI [(1,ua+ud+16)] f4 ?_
   simp only[p3,p4,List.length_drop,lR,sp,tk,fl,NV,NJ,↓NP,bC,seval]
   refine aE fv ?_
   simp only[wr,z5,fl,NV,↓NP,undef,bC,seval]
   exact⟨by decide,by decide,rfl⟩
  have z5:(((16+ut:Nat):Int) != ((b.length - (ua+ud):Nat):Int))=false:=by
   rw[c5];simp
  cases V with
  | false=>
   rw[if_pos (.inr rfl)]
   simp only[p1,p2,p5,NV,↓NP,seval]
   refine aI [(1,ua+ud+16)] f4 ?_
   simp only[p3,p4,List.length_drop,lR,sp,tk,fl,NV,NJ,↓NP,bC,seval]
   refine aE fv ?_
   simp only[wr,z5,fl,NV,↓NP,bC,seval]
   exact⟨by decide,by decide,rfl⟩
  | true=>
   rw[if_neg (by rintro (h|h);· exact h c5
                 ·cases h)]
   simp only[p1,p2,p5,NV,↓NP,seval]
   refine aI [(1,ua+ud+16)] f4 ?_
   simp only[p3,p4,List.length_drop,lR,sp,tk,fl,NV,NJ,↓NP,bC,seval]
   refine aE fv ?_
   simp only[wr,z5,lR,tk,fl,NV,↓NP,bC,seval]
   have l20:=Sb (M:=x) (s:=v1) (t:=v2) (S:=t) lR
   have e:=b9 (a:=y7) (b:=dG x v1 v2 R t) (by rw[l20];rfl)
   unfold dG at e l20
   rw[e]
   exact⟨by decide,by omega,List.take_of_length_le (by omega)⟩
theorem h29 (b:List UInt8) (hb:b.length≤2 ^ 36):Fun Tryz.prog aO 29 [.str b] [] 0 (.tup [.agg (Gt b),.int .i64 (Du b)]) [] 0:=by
 have hp:=Lk b
 rcases hA:cJ b with⟨x,ua,ea⟩
 have u1:=mS hA
 rw[hA] at hp
 simp only at hp
 by_cases c1:ea=0
 case neg=>
  rw[if_pos c1] at hp
  have h:=AA4 b hb x ua ea hA c1
  rw[show Du b=ea from congrArg Prod.fst hp,show Gt b=y7 from congrArg Prod.snd hp]
  exact h
 subst c1
 have u1:=u1 rfl
 rw[if_neg (fun h=>h rfl)] at hp
 rcases hD:eU (b.drop ua) with⟨l,ud,ed⟩
 have u2:=G9 hD
 rw[List.length_drop] at u2
 by_cases c2:ed=0
 case neg=>
  have hn:xN (b.drop ua) 0 0=(0,0,0,ed):=by unfold xN;rw[hD];exact if_pos c2
  rw[hn] at hp
  simp only at hp
  rw[if_pos c2] at hp
  rw[show Du b=ed from congrArg Prod.fst hp,show Gt b=y7 from congrArg Prod.snd hp]
  exact AA5 b hb x ua hA u1 l ud ed hD c2
 subst c2
 have u2:=u2 rfl
 by_cases c3:l.length=2
 case neg=>
  have hn:(xN (b.drop ua) 0 0).2.2.2=6:=by
   unfold xN
   rw[hD]
   simp only
   rw[if_neg (fun h=>h rfl)]
   match l,c3 with
   | [],_=>rfl
   | [_],_=>rfl
   | [_,_],h=>exact absurd rfl h
   | _ :: _ :: _ :: _,_=>rfl
  rw[hn,if_pos (by decide)] at hp
  rw[show Du b=6 from congrArg Prod.fst hp,show Gt b=y7 from congrArg Prod.snd hp]
  exact AA6 b hb x ua hA u1 l ud hD c3
 obtain⟨v1,v2,rfl⟩:∃ v1 v2,l=[v1,v2]:=by
  match l,c3 with
  | [a,b],_=>exact⟨a,b,rfl⟩
 have hn:xN (b.drop ua) 0 0=(v1,v2,ud,0):=by unfold xN;rw[hD];exact if_neg (fun h=>h rfl)
 rw[hn] at hp
 simp only[List.length_drop] at hp
 rw[if_neg (fun h=>h rfl)] at hp
 by_cases c4:b.length - (ua+ud) < 16
 ·rw[if_pos c4] at hp
  rw[show Du b=5 from congrArg Prod.fst hp,show Gt b=y7 from congrArg Prod.snd hp]
  exact AA7 b hb x ua hA u1 v1 v2 ud hD u2 c4
 ·rw[if_neg c4] at hp
  rcases hT:cJ (b.drop (ua+ud+16)) with⟨t,ut,et⟩
  rw[hT] at hp
  simp only at hp
  have h:=AA8 b hb x ua hA u1 v1 v2 ud hD u2 c4 t ut et hT
  rw[show Du b=_ from congrArg Prod.fst hp,show Gt b=_ from congrArg Prod.snd hp]
  split at h
  ·rename_i q;rw[if_pos q];exact h
  ·rename_i q
   rw[if_neg q]
   split at h
   ·rename_i q;rw[if_pos q];exact h
   ·rename_i q;rw[if_neg q];exact h
theorem Qj (b:List UInt8):∃ (M:List UInt8) (s t:Int) (R S:List UInt8),R.length=16∧Gt b=dG M s t R S∧(Du b=0→nT M s t S=true∧pE M s t R S=b):=by
 have hp:=Lk b
 have u1:=fun x ua ea (h:cJ b=(x,ua,ea)) (he:ea=0)=>G7 (show cJ b=(x,ua,0) by rw[h,he])
 rcases hA:cJ b with⟨x,ua,ea⟩
 have u1:=u1 x ua ea hA
 rw[hA] at hp
 simp only at hp
 have triv:∀ e:Int,e≠0→(Du b,Gt b)=(e,y7)→∃ (M:List UInt8) (s t:Int) (R S:List UInt8),R.length=16∧Gt b=dG M s t R S∧(Du b=0→nT M s t S=true∧pE M s t R S=b):=fun e he h=>
  ⟨[],0,0,bY,[],rfl,congrArg Prod.snd h,fun q=>absurd ((congrArg Prod.fst h).symm.trans q) he⟩
 by_cases c1:ea=0
 case neg=>rw[if_pos c1] at hp;exact triv ea c1 hp
 obtain⟨la,ta⟩:=u1 c1
 subst c1
 rw[if_neg (fun h=>h rfl)] at hp
 rcases hn:xN (b.drop ua) 0 0 with⟨v1,v2,ud,ed⟩
 rw[hn] at hp
 simp only at hp
 by_cases c2:ed=0
 case neg=>rw[if_pos c2] at hp;exact triv ed c2 hp
 subst c2
 rw[if_neg (fun h=>h rfl)] at hp
 obtain⟨lb,tb⟩:ud≤(b.drop ua).length∧(b.drop ua).take ud=i8 [v1,v2]:=by
  unfold xN at hn
  rcases hD:eU (b.drop ua) with⟨l,u,e⟩
  rw[hD] at hn
  simp only at hn
  by_cases q:e=0
  ·subst q
   rw[if_neg (fun h=>h rfl)] at hn
   have hd:=Ir hD
   match l,hn with
   | [a,c],hn=>
    simp only[Prod.mk.injEq] at hn
    obtain⟨rfl,rfl,rfl,_⟩:=hn
    exact⟨hd.1,hd.2.1⟩
   | [],hn=>simp at hn
   | [_],hn=>simp at hn
   | _ :: _ :: _ :: _,hn=>simp at hn
  ·rw[if_pos q] at hn
   simp only[Prod.mk.injEq] at hn
   exact absurd hn.2.2.2 q
 rw[List.length_drop] at lb
 simp only[List.length_drop] at hp
 by_cases c3:b.length - (ua+ud) < 16
 ·rw[if_pos c3] at hp;exact triv 5 (by decide) hp
 rw[if_neg c3] at hp
 have u4:=fun t ut et (h:cJ (b.drop (ua+ud+16))=(t,ut,et)) (he:et=0)=>G7 (show cJ (b.drop (ua+ud+16))=(t,ut,0) by rw[h,he])
 rcases hT:cJ (b.drop (ua+ud+16)) with⟨t,ut,et⟩
 have u4:=u4 t ut et hT
 rw[hT] at hp
 simp only at hp
 by_cases c4:et=0
 case neg=>rw[if_pos c4] at hp;exact triv et c4 hp
 obtain⟨lt,tt⟩:=u4 c4
 rw[if_neg (fun h=>h c4)] at hp
 by_cases c5:16+ut≠b.length - (ua+ud)∨nT x v1 v2 t=false
 ·rw[if_pos c5] at hp;exact triv 6 (by decide) hp
 rw[if_neg c5] at hp
 rw[not_or] at c5
 rw[List.length_drop] at lt
 have c6:16+ut=b.length - (ua+ud):=Decidable.not_not.1 c5.1
 refine⟨x,v1,v2,(b.drop (ua+ud)).take 16,t,by rw[List.length_take,List.length_drop];omega,congrArg Prod.snd hp,fun _=>⟨by simpa using c5.2,?_⟩⟩
 unfold pE
 rw[← ta,← tb,← tt]
 have e1:(b.drop (ua+ud+16)).take ut=b.drop (ua+ud+16):=List.take_of_length_le (by rw[List.length_drop];omega)
 rw[e1]
 have e2:(b.drop (ua+ud)).take 16++b.drop (ua+ud+16)=b.drop (ua+ud):=by rw[← List.drop_drop (i:=16) (j:=ua+ud)];exact List.take_append_drop _ _
 have e3:(b.drop ua).take ud++b.drop (ua+ud)=b.drop ua:=by rw[← List.drop_drop (i:=ud) (j:=ua)];exact List.take_append_drop _ _
 rw[List.append_assoc,List.append_assoc,e2,e3,List.take_append_drop]
theorem Qk (R S R' S':List UInt8) (hR:R.length=16) (hR':R'.length=16):eF [.i .u8,.i .u8,.i .u8,.i .u8,.i .u8,.i .u8,.i .u8,.i .u8,.i .u8,.i .u8,.i .u8,.i .u8,.i .u8,.i .u8,.i .u8,.i .u8,.s] (aB R++[.str S]) (aB R'++[.str S'])=some (R==R' && (S==S' && true)):=by
 have h2:eF [.s] [.str S] [.str S']=some (S==S' && true):=rfl
 have h1:=yI R R' _ _ _ _ (by rw[hR,hR']) h2
 rw[hR] at h1
 exact h1
theorem h6 (M:List UInt8) (s t:Int) (R S b:List UInt8) (lR:R.length=16) (hs:kJ s) (ht:kJ t) :
  Fun Tryz.prog aO 6 [.agg (dG M s t R S),.str b] [] 0 (.bool true) [] 0:=by
 refine dK Tryz.f6 (by kernel_rfl) (fun _=>rfl) ?_
 conv in aJ _ _=>(reduce;simp only[aH,seval])
 have ff:=Qx (tS:=aO) M s t R S lR
 have tk:=fun x=>cP (x:=x) lR
 have tl:=fun l=>iD (l:=l) lR
 have fl:=dH R
 by_cases hf:M.length≤100∧S.length≤4000∧b.length≤4000
 case neg=>
  unfold dG at *
  by_cases h1:M.length≤100∧S.length≤4000
  ·rw[decide_eq_true h1.1,decide_eq_true h1.2] at ff
   have c1:(b.length:Int) > 4000:=by omega
   simp only[NV,↓NP,seval]
   refine aE h9 ?_
   simp only[lR,tk,fl,NV,↓NP,seval]
   refine aE ff ?_
   simp only[fl,c1,NV,↓NP,seval]
  ·rw[show (decide (M.length≤100) && decide (S.length≤4000))=false by simp;omega] at ff
   simp only[NV,↓NP,seval]
   refine aE h9 ?_
   simp only[lR,tk,fl,NV,↓NP,seval]
   refine aE ff ?_
   simp only[fl,NV,↓NP,undef,seval]
 obtain⟨hM,hS,hb⟩:=hf
 rw[decide_eq_true hM,decide_eq_true hS] at ff
 have c1:¬ (b.length:Int) > 4000:=by omega
 have fe:=h27 (tS:=aO) M s t R S (by omega) (by omega) lR
 have fr:=h30 (tS:=aO) M s t R S (by omega) (by omega) lR hs ht
 have le:(pE M s t R S).length≤2 ^ 36:=by
  have e1:=aS (S.length:Int)
  have e2:=oL s t
  have e3:=aS (M.length:Int)
  simp only[pE,bU,List.length_append]
  omega
 have fd:=h28 b (by omega)
 have fdr:=h29 b (by omega)
 have fd2:=h28 (pE M s t R S) le
 have fv:=Qw (tS:=aO) M s t R S lR
 have xx:(pE M s t R S != pE M s t R S)=false:=by simp
 obtain⟨M1,s1,t1,R1,S1,lR1,e1,k1⟩:=Qj b
 have tk1:=fun x=>cP (x:=x) lR1
 have fl1:=dH R1
 have q1:=Qk R1 S1 R1 S1 lR1 lR1
 have q2:=Qk R S R S lR lR
 simp only[beq_self_eq_true,Bool.and_true] at q1 q2
 have z0:(Du b != Du b)=false:=by simp
 have fe1:Du b=0→Fun Tryz.prog aO 27 [.agg (dG M1 s1 t1 R1 S1)] [] 0 (.str b) [] 0:=fun h=>by
  obtain⟨v1,w1⟩:=k1 h
  have hb:=of_decide_eq_true v1
  have:=h27 (tS:=aO) M1 s1 t1 R1 S1 (by omega) (by omega) lR1
  rwa [w1] at this
 have bb:(b != b)=false:=by simp
 rw[e1] at fd fdr
 by_cases hv:nT M s t S=true
 case neg=>
  obtain⟨M2,s2,t2,R2,S2,lR2,e2,_⟩:=Qj (pE M s t R S)
  have tk2:=fun x=>cP (x:=x) lR2
  have fl2:=dH R2
  rw[e2] at fd2
  rw[show nT M s t S=false by simpa using hv] at fv
  generalize pE M s t R S=EC at *
  generalize hE1:Du b=E1 at *
  generalize Du EC=E2 at *
  unfold dG at *
  by_cases g1:E1=0
  ·subst g1
   have fe1:=fe1 rfl
   simp only[NV,↓NP,seval]
   refine aE h9 ?_
   simp only[lR,tk,fl,NV,↓NP,seval]
   refine aE ff ?_
   simp only[lR,tk,fl,c1,NV,↓NP,seval]
   refine aE fe ?_
   simp only[fl,NV,↓NP,seval]
   refine aE fd ?_
   simp only[lR1,fl1,NV,↓NP,bC,seval]
   refine aE fdr ?_
   simp only[lR,lR1,tk,fl,fl1,NV,↓NP,bC,seval]
   refine aE fr ?_
   simp only[lR1,tk1,fl,fl1,q1,z0,NV,↓NP,eF,nD,seval]
   refine aE fe1 ?_
   simp only[fl1,NV,↓NP,seval]
   refine aE fd2 ?_
   simp only[lR,tk,fl,lR2,fl2,NV,↓NP,bC,seval]
   refine aE fv ?_
   simp only[fl,NV,↓NP,undef,seval]
  ·have z1:(E1==0)=false:=by simpa using g1
   simp only[NV,↓NP,seval]
   refine aE h9 ?_
   simp only[lR,tk,fl,NV,↓NP,seval]
   refine aE ff ?_
   simp only[lR,tk,fl,c1,NV,↓NP,seval]
   refine aE fe ?_
   simp only[fl,NV,↓NP,seval]
   refine aE fd ?_
   simp only[lR1,fl1,NV,↓NP,bC,seval]
   refine aE fdr ?_
   simp only[lR,lR1,tk,fl,fl1,NV,↓NP,bC,seval]
   refine aE fr ?_
   simp only[lR1,tk1,fl,q1,z0,z1,NV,↓NP,undef,eF,nD,seval]
   refine aE fd2 ?_
   simp only[lR,tk,fl,lR2,fl2,NV,↓NP,bC,seval]
   refine aE fv ?_
   simp only[fl,NV,↓NP,undef,seval]
 have d:=Tc M s t R S hv lR
 rw[d.1,d.2] at fd2
 rw[hv] at fv
 clear d
 generalize pE M s t R S=EC at *
 generalize hE1:Du b=E1 at *
 unfold dG at *
 by_cases g1:E1=0
 ·subst g1
  have fe1:=fe1 rfl
  simp only[NV,↓NP,seval]
  refine aE h9 ?_
  simp only[lR,tk,fl,NV,↓NP,seval]
  refine aE ff ?_
  simp only[lR,tk,fl,c1,NV,↓NP,seval]
  refine aE fe ?_
  simp only[fl,NV,↓NP,seval]
  refine aE fd ?_
  simp only[lR1,fl1,NV,↓NP,bC,seval]
  refine aE fdr ?_
  simp only[lR,lR1,tk,fl,fl1,NV,↓NP,bC,seval]
  refine aE fr ?_
  simp only[lR1,tk1,fl,fl1,q1,z0,NV,↓NP,eF,nD,seval]
  refine aE fe1 ?_
  simp only[fl1,NV,↓NP,seval]
  refine aE fd2 ?_
  simp only[lR,tk,fl,NV,↓NP,bC,seval]
  refine aE fv ?_
  simp only[lR,tk,fl,q2,NV,↓NP,eF,nD,seval]
 ·have z1:(E1==0)=false:=by simpa using g1
  simp only[NV,↓NP,seval]
  refine aE h9 ?_
  simp only[lR,tk,fl,NV,↓NP,seval]
  refine aE ff ?_
  simp only[lR,tk,fl,c1,NV,↓NP,seval]
  refine aE fe ?_
  simp only[fl,NV,↓NP,seval]
  refine aE fd ?_
  simp only[lR1,fl1,NV,↓NP,bC,seval]
  refine aE fdr ?_
  simp only[lR,lR1,tk,fl,fl1,NV,↓NP,bC,seval]
  refine aE fr ?_
  simp only[lR1,tk1,fl,q1,z0,z1,NV,↓NP,undef,eF,nD,seval]
  refine aE fd2 ?_
  simp only[lR,tk,fl,NV,↓NP,bC,seval]
  refine aE fv ?_
  simp only[lR,tk,fl,q2,NV,↓NP,eF,nD,seval]
end Go.Proofs.YtmhkkalbijbplaaGreatDoor
