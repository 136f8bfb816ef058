/- The proof, part Vy: RfD, RfE, RfF, LwC. -/
import Derived.Test.YtmhkkalbijbplaaGreatDoorVx
set_option linter.unusedSimpArgs false
set_option linter.unusedVariables false
set_option maxRecDepth 100000
set_option maxHeartbeats 16000000
namespace Go.Proofs.YtmhkkalbijbplaaGreatDoor
open Go Go.Sx
def Vy (i:Int) (d o t:List UInt8) (e:Int):List SV:=.int .i64 i :: (aB d++[.str o,.str t,.int .i64 e])
def Tj (e:Int):List SV:=Vy 0 bY [] [] e
theorem AA9 (b:List UInt8) (hb:b.length≤2 ^ 36) (x:Int) (ua:Nat) (ea:Int) (hA:cR b=(x,ua,ea)) (c1:ea≠0) :
  Fun Tryz.prog aO 64 [.str b] [] 0 (.agg (Tj ea)) [] 0:=by
 refine dK Tryz.f64 (by kernel_rfl) (fun η=>rfl) ?_
 conv in aJ _ _=>(reduce;simp only[aH,seval])
 have f1:=f50 (tS:=aO) b (by omega) none (fun c h=>by cases h)
 rw[hA] at f1
 unfold eC at f1
 have z1:(ea != 0)=true:=by simpa using c1
 simp only[NV,↓NP,seval]
 refine aI [(1,0)] f1 ?_
 simp only[z1,NV,NJ,↓NP,bC,seval]
 rfl
theorem ABa (b:List UInt8) (hb:b.length≤2 ^ 36) (x:Int) (ua:Nat) (hA:cR b=(x,ua,0)) (hu:ua≤b.length) (c3:b.length - ua < 16) :
  Fun Tryz.prog aO 64 [.str b] [] 0 (.agg (Tj 5)) [] 0:=by
 refine dK Tryz.f64 (by kernel_rfl) (fun η=>rfl) ?_
 conv in aJ _ _=>(reduce;simp only[aH,seval])
 have f1:=f50 (tS:=aO) b (by omega) none (fun c h=>by cases h)
 rw[hA] at f1
 unfold eC at f1
 have q3:(ua:Int)≤(b.length:Int):=by omega
 have q4:(0:Int)≤(ua:Int):=by omega
 have q7:((b.length - ua:Nat):Int) < 16:=by omega
 simp only[NV,↓NP,seval]
 refine aI [(1,0)] f1 ?_
 simp only[q3,q4,q7,NV,NJ,↓NP,bC,seval]
 rfl
theorem ABb (b:List UInt8) (hb:b.length≤2 ^ 36) (x:Int) (ua:Nat) (hA:cR b=(x,ua,0)) (hu:ua≤b.length) (c3:¬ b.length - ua < 16)
  (o:List UInt8) (us:Nat) (es:Int) (hS:cJ (b.drop (ua+16))=(o,us,es)) (t:List UInt8) (ut:Nat) (et:Int) (hT:es=0→cJ (b.drop (ua+16+us))=(t,ut,et)) :
  Fun Tryz.prog aO 64 [.str b] [] 0 (.agg (if es≠0 then Tj es else if et≠0 then Tj et else if us+ut≠b.length - (ua+16) then Tj 6 else Vy x ((b.drop ua).take 16) o t 0)) [] 0:=by
 have rt3:∀ (η:Nat→Nat × Nat) (R o t:List UInt8) (e:Int),SV.renL η (aB R++[.str o,.str t,.int .i64 e])=aB R++[.str o,.str t,.int .i64 e]:=fun η R o t e=>by
  refine SV.flatL_ren η _ ?_
  have:∀ l m:List SV,SV.flatL (l++m)=(SV.flatL l && SV.flatL m):=fun l m=>by
   induction l with
   | nil=>rfl
   | cons a l ih=>simp[SV.flatL,ih,Bool.and_assoc]
  rw[this,aX];rfl
 refine dK Tryz.f64 (by kernel_rfl) (fun η=>by
  split
  ·rfl
  split
  ·rfl
  split
  ·rfl
  ·simp only[SV.ren,SV.renL,Vy,rt3]) ?_
 conv in aJ _ _=>(reduce;simp only[aH,seval])
 have f1:=f50 (tS:=aO) b (by omega) none (fun c h=>by cases h)
 rw[hA] at f1
 unfold eC at f1
 have q3:(ua:Int)≤(b.length:Int):=by omega
 have q4:(0:Int)≤(ua:Int):=by omega
 have q7:¬ ((b.length - ua:Nat):Int) < 16:=by omega
 simp only[NV,↓NP,seval]
 refine aI [(1,0)] f1 ?_
 simp only[q3,q4,q7,NV,NJ,↓NP,bC,seval]
 rw[aL]
 have ld:(b.drop ua).length=b.length - ua:=List.length_drop
 refine bF (fun _ _ _ _ _ h=>h) (σ:=Nat) (fun i=>[(8,.int .i64 (i:Int)),(7,.ptr 2 0),(3,.slc 1 ua 1 (b.length - ua) none),(2,.ptr 0 0)])
  (fun i=>[(2,⟨.own 75,.int .i64 x :: (aB (JO (b.drop ua) i)++[.str [],.str [],.int .i64 0])⟩),(1,⟨.own 5,aB b⟩),(0,⟨.own 75,Tj 0⟩)]) (fun _=>3) (fun i=>i≤16) (fun i=>16 - i) 0 ?_ (Nat.zero_le _) ?_
 ·exact⟨[(0,0),(1,0),(2,0)],by simp[NF,seval];exact⟨rfl,rfl⟩,by simp[NF,seval]⟩
 intro i hi
 have lc:=Ll (d:=b.drop ua) (by omega) hi
 by_cases uT:i < 16
 ·obtain⟨c,hc⟩:∃ c,(b.drop ua)[i]?=some c:=⟨_,List.getElem?_eq_getElem (by omega)⟩
  have hg:(aB b)[ua+i]?=some (.int .u8 (c.toNat:Int)):=by
   rw[List.getElem?_drop] at hc
   exact Fs hc
  have sp3:aF (.int .i64 x :: (aB (JO (b.drop ua) i)++[.str [],.str [],.int .i64 0])) (1+i) [.int .u8 (c.toNat:Int)]=.int .i64 x :: (aB (JO (b.drop ua) (i+1))++[.str [],.str [],.int .i64 0]):=by
   rw[show 1+i=i+1 by omega,qE]
   exact congrArg (fun z=>SV.int .i64 x :: z) (Lm (by omega) uT hc _)
  have c1:(i:Int) < 16:=by omega
  have c2:(0:Int)≤(i:Int):=by omega
  have c4:(i:Int) < ((b.length - ua:Nat):Int):=by omega
  have v4:IntKind.i64.wrap ((i:Int)+1)=((i+1:Nat):Int):=by rw[aD (by omega) (by omega)];omega
  simp only[c1,c2,c4,v4,hg,sp3,lc,NV,↓NP,bC,seval]
  exact⟨by omega,by omega,i+1,⟨[(0,0),(1,0),(2,0)],by simp[rt3,NF,seval];rfl,by simp[NF,seval]⟩,by omega,by omega⟩
 ·obtain rfl:i=16:=by omega
  rw[Qi]
  have f4:=f49 (tS:=aO) (b.drop (ua+16)) (by rw[List.length_drop];omega)
  rw[hS] at f4
  unfold j9 at f4
  simp only[List.length_drop] at f4
  have p1:ua+(b.length - ua)≤b.length:=by omega
  have p2:(16:Int)≤((b.length - ua:Nat):Int):=by omega
  have p3:List.take (b.length - (ua+16)) (List.drop (ua+16) (aB b))=aB (b.drop (ua+16)):=by rw[nW];exact List.take_of_length_le (by rw[aA,List.length_drop];omega)
  have p4:ua+16+(b.length - (ua+16))≤b.length:=by omega
  have p5:b.length - ua - 16=b.length - (ua+16):=by omega
  have lR:((b.drop ua).take 16).length=16:=by rw[List.length_take];omega
  generalize (b.drop ua).take 16=R at *
  by_cases e0:es=0
  case neg=>
   have z1:(es != 0)=true:=by simpa using e0
   rw[if_pos e0]
   simp only[p1,p2,p5,NV,↓NP,seval]
   refine aI [(1,ua+16)] f4 ?_
   simp only[p3,p4,z1,List.length_drop,NV,NJ,↓NP,bC,seval]
   exact⟨by decide,Nat.le_refl 20,rfl⟩
  subst e0
  have hT:=hT rfl
  have hus:=mS hS rfl
  rw[List.length_drop] at hus
  rw[if_neg (fun h=>h rfl)]
  have f5:=f49 (tS:=aO) (b.drop (ua+16+us)) (by rw[List.length_drop];omega)
  rw[hT] at f5
  unfold j9 at f5
  simp only[List.length_drop] at f5
  have p6:List.take (b.length - (ua+16+us)) (List.drop (ua+16+us) (aB b))=aB (b.drop (ua+16+us)):=by rw[nW];exact List.take_of_length_le (by rw[aA,List.length_drop];omega)
  have p7:ua+16+us+(b.length - (ua+16+us))≤b.length:=by omega
  have p8:(us:Int)≤((b.length - (ua+16):Nat):Int):=by omega
  have p9:(0:Int)≤(us:Int):=by omega
  have p10:b.length - (ua+16) - us=b.length - (ua+16+us):=by omega
  have p11:ua+16+(b.length - (ua+16))≤b.length:=by omega
  by_cases e1:et=0
  case neg=>
   have z1:(et != 0)=true:=by simpa using e1
   rw[if_pos e1]
   simp only[p1,p2,p5,NV,↓NP,seval]
   refine aI [(1,ua+16)] f4 ?_
   simp only[p3,p4,p8,p9,p10,List.length_drop,NV,NJ,↓NP,seval]
   refine aI [(1,ua+16+us)] f5 ?_
   simp only[p6,p7,z1,List.length_drop,NV,NJ,↓NP,bC,seval]
   exact⟨by decide,Nat.le_refl 20,rfl⟩
  subst e1
  have hut:=mS hT rfl
  rw[List.length_drop] at hut
  rw[if_neg (fun h=>h rfl)]
  have wr:IntKind.i64.wrap ((us:Int)+(ut:Int))=((us+ut:Nat):Int):=by rw[aD (by omega) (by omega)];omega
  by_cases c5:us+ut=b.length - (ua+16)
  case neg=>
   have z5:(((us+ut:Nat):Int) != ((b.length - (ua+16):Nat):Int))=true:=by
    rw[bne_iff_ne];omega
   rw[if_pos c5]
   simp only[p1,p2,p5,NV,↓NP,seval]
   refine aI [(1,ua+16)] f4 ?_
   simp only[p3,p4,p8,p9,p10,List.length_drop,NV,NJ,↓NP,seval]
   refine aI [(1,ua+16+us)] f5 ?_
   simp only[p6,p7,wr,z5,List.length_drop,NV,NJ,↓NP,bC,seval]
   exact⟨by decide,Nat.le_refl 20,rfl⟩
  have z5:(((us+ut:Nat):Int) != ((b.length - (ua+16):Nat):Int))=false:=by
   rw[c5];simp
  rw[if_neg (fun h=>h c5)]
  have s17:∀ (u v:List UInt8) (d:List SV),aF (aB R++[.str u,.str v,.int .i64 0]) 16 d=aB R++aF [.str u,.str v,.int .i64 0] 0 d:=fun u v d=>i9 lR
  have s18:∀ (u v w:List UInt8),aF (aB R++[.str u,.str v,.int .i64 0]) 17 [.str w]=aB R++[.str u,.str w,.int .i64 0]:=fun u v w=>by
   unfold aF
   have lb:(aB R).length=16:=by rw[aA,lR]
   rw[List.take_append,List.drop_append,lb,List.take_of_length_le (by omega),List.drop_of_length_le (by simp;omega)]
   simp
  have tk3:∀ l:List SV,l.length=3→List.take 19 (aB R++l)=aB R++l:=fun l hl=>List.take_of_length_le (by rw[List.length_append,aA,lR,hl];decide)
  have tk3':List.take 19 (aB R++[.str o,.str t,.int .i64 0])=aB R++[.str o,.str t,.int .i64 0]:=tk3 _ rfl
  simp only[p1,p2,p5,NV,↓NP,seval]
  refine aI [(1,ua+16)] f4 ?_
  simp only[p3,p4,p8,p9,p10,List.length_drop,NV,NJ,↓NP,seval]
  refine aI [(1,ua+16+us)] f5 ?_
  simp only[p6,p7,wr,z5,s17,s18,tk3',lR,List.length_drop,NV,NJ,↓NP,bC,seval]
  have l20:(SV.int .i64 x :: (aB R++[.str o,.str t,.int .i64 0])).length=20:=by simp[aA,lR]
  have e:aF (Tj 0) 0 (SV.int .i64 x :: (aB R++[.str o,.str t,.int .i64 0]))=SV.int .i64 x :: (aB R++[.str o,.str t,.int .i64 0]):=b9 (by rw[l20];rfl)
  rw[e]
  exact⟨by decide,by omega,List.take_of_length_le (by omega)⟩
theorem C3 {l:Nat} {e:Int} {v:Bool} (h:e≠0):pK l e v=e:=by unfold pK;rw[if_neg (fun q=>h q.1)]
theorem JI (b:List UInt8) (hb:b.length≤2 ^ 36):∃ (x:Int) (d o t:List UInt8) (e:Int),d.length=16∧o.length≤b.length∧t.length≤b.length ∧
  Fun Tryz.prog aO 64 [.str b] [] 0 (.agg (Vy x d o t e)) [] 0∧(e=0→xM b=(x,d,o,t,b.length,0)) ∧
  (e≠0→∀ r:Bool,pK (b.length - (xM b).2.2.2.2.1) (xM b).2.2.2.2.2 r=e):=by
 have zz:∀ e:Int,e≠0→Fun Tryz.prog aO 64 [.str b] [] 0 (.agg (Tj e)) [] 0→(∀ r:Bool,pK (b.length - (xM b).2.2.2.2.1) (xM b).2.2.2.2.2 r=e)→∃ (x:Int) (d o t:List UInt8) (e:Int),d.length=16∧o.length≤b.length∧t.length≤b.length ∧
   Fun Tryz.prog aO 64 [.str b] [] 0 (.agg (Vy x d o t e)) [] 0∧(e=0→xM b=(x,d,o,t,b.length,0))∧(e≠0→∀ r:Bool,pK (b.length - (xM b).2.2.2.2.1) (xM b).2.2.2.2.2 r=e):=fun e he hF hE=>
  ⟨0,bY,[],[],e,rfl,Nat.zero_le _,Nat.zero_le _,hF,fun h=>absurd h he,fun _=>hE⟩
 rcases hA:cR b with⟨x,ua,ea⟩
 have u1:ea=0→ua≤b.length:=fun h=>by subst h;exact (sS hA).2.1
 by_cases c1:ea=0
 case neg=>
  refine zz ea c1 (AA9 b hb x ua ea hA c1) fun r=>?_
  have hr:xM b=(x,bY,[],[],0,ea):=by unfold xM;rw[hA];exact if_pos c1
  rw[hr]
  exact C3 c1
 subst c1
 have u1:=u1 rfl
 by_cases c3:b.length - ua < 16
 ·refine zz 5 (by decide) (ABa b hb x ua hA u1 c3) fun r=>?_
  have hd:vZ (b.drop ua)=(Ab (b.drop ua),0,5):=by unfold vZ;rw[if_pos (by rw[List.length_drop];exact c3)]
  have hr:xM b=(x,Ab (b.drop ua),[],[],ua,5):=by unfold xM;rw[hA];simp only;rw[if_neg (fun h=>h rfl),hd];rfl
  rw[hr]
  exact C3 (show (5:Int)≠0 by decide)
 have hd:vZ (b.drop ua)=((b.drop ua).take 16,16,0):=by unfold vZ;rw[if_neg (by rw[List.length_drop];exact c3)]
 rcases hS:cJ (b.drop (ua+16)) with⟨o,us,es⟩
 have u3:=mS hS
 rcases hT:cJ (b.drop (ua+16+us)) with⟨t,ut,et⟩
 have u4:=mS hT
 rw[List.length_drop] at u3 u4
 have hF:=ABb b hb x ua hA u1 c3 o us es hS t ut et (fun _=>hT)
 have lo:=Dt (b.drop (ua+16))
 have lt:=Dt (b.drop (ua+16+us))
 rw[hS] at lo
 rw[hT] at lt
 rw[List.length_drop] at lo lt
 have lo:o.length≤b.length - (ua+16):=lo
 have lt:t.length≤b.length - (ua+16+us):=lt
 by_cases c4:es=0
 case neg=>
  rw[if_pos c4] at hF
  refine zz es c4 hF fun r=>?_
  have hr:xM b=(x,(b.drop ua).take 16,o,[],ua+16,es):=by
   unfold xM;rw[hA];simp only;rw[if_neg (fun h=>h rfl),hd];simp only;rw[if_neg (fun h=>h rfl),hS];exact if_pos c4
  rw[hr]
  exact C3 c4
 subst c4
 rw[if_neg (fun h=>h rfl)] at hF
 have hr:xM b=(x,(b.drop ua).take 16,o,t,ua+16+us+v9 ut et,et):=by
  unfold xM;rw[hA];simp only;rw[if_neg (fun h=>h rfl),hd];simp only;rw[if_neg (fun h=>h rfl),hS];simp only;rw[if_neg (fun h=>h rfl),hT]
 by_cases c5:et=0
 case neg=>
  rw[if_pos c5] at hF
  refine zz et c5 hF fun r=>?_
  rw[hr]
  exact C3 c5
 subst c5
 rw[if_neg (fun h=>h rfl)] at hF
 have u3:=u3 rfl
 have u4:=u4 rfl
 have ha:v9 ut 0=ut:=rfl
 rw[ha] at hr
 by_cases c6:us+ut=b.length - (ua+16)
 ·rw[if_neg (fun h=>h c6)] at hF
  refine⟨x,(b.drop ua).take 16,o,t,0,by rw[List.length_take,List.length_drop];omega,by omega,by omega,hF,fun _=>?_,fun h=>absurd rfl h⟩
  rw[hr]
  congr 5
  omega
 ·rw[if_pos c6] at hF
  refine zz 6 (by decide) hF fun r=>?_
  rw[hr]
  unfold pK
  rw[if_pos ⟨rfl,.inl (by show 0 < b.length - (ua+16+us+ut);omega)⟩]
theorem ABc (P:List UInt8) (ht:Int) (M:List UInt8) (s t:Int) (R S:List UInt8) (hP:P.length=16) (hR:R.length=16) (hc:jH ht=0∨nT M s t S=false) :
  Fun Tryz.prog aO 22 [.agg (aB P),.int .i64 ht,.agg (dG M s t R S)] [] 0 (.tup [.int .i64 0,.int .i64 1]) [] 0:=by
 refine dK Tryz.f22 (by kernel_rfl) (fun _=>rfl) ?_
 conv in aJ _ _=>(reduce;simp only[aH,seval])
 have fw:=Sv (tS:=aO) ht
 have fv:=Qw (tS:=aO) M s t R S hR
 have tk:=fun x=>cP (x:=x) hR
 have fl:=dH R
 unfold dG at *
 by_cases h0:jH ht=0
 ·rw[h0] at fw
  simp only[hR,tk,fl,NV,↓NP,seval]
  refine aE fv ?_
  simp only[fl,NV,↓NP,seval]
  refine aE fw ?_
  simp only[NV,↓NP,undef,seval]
 ·have c0:(jH ht==0)=false:=by simpa using h0
  rw[hc.resolve_left h0] at fv
  simp only[hR,tk,fl,NV,↓NP,seval]
  refine aE fv ?_
  simp only[fl,NV,↓NP,seval]
  refine aE fw ?_
  simp only[c0,NV,↓NP,seval]
theorem h22 (P:List UInt8) (ht:Int) (M:List UInt8) (s t:Int) (R S:List UInt8) (hP:P.length=16) (hR:R.length=16) (hS:S.length≤2 ^ 20) (hs:kJ s) (h64':kJ t) (hw:jH ht≠0) (hv:nT M s t S=true) :
  Fun Tryz.prog aO 22 [.agg (aB P),.int .i64 ht,.agg (dG M s t R S)] [] 0 (.tup [.int .i64 (zW P ht M s t R S).1,.int .i64 (zW P ht M s t R S).2]) [] 0:=by
 obtain⟨x,d,o,u,e,ld,lo,lu,f64,k0,k1⟩:=JI S (by omega)
 refine dK Tryz.f22 (by kernel_rfl) (fun _=>rfl) ?_
 conv in aJ _ _=>(reduce;simp only[aH,seval])
 have fw:=Sv (tS:=aO) ht
 have fc:=uT (tS:=aO) ht
 have fv:=Qw (tS:=aO) M s t R S hR
 rw[hv] at fv
 have hM:M.length≤12:=by have:=of_decide_eq_true hv;omega
 have fx:=Yu (tS:=aO) M s t R S (by omega) hR hs h64'
 have lx:=uR (M:=M) (R:=R) s t hM hR
 have tk:=fun x=>cP (x:=x) hR
 have fl:=dH R
 have hWb:=QL ht
 have g:=zU (l:=[.str S]) hR
 have c0:(jH ht==0)=false:=by simpa using hw
 have l20:(SV.int .i64 x :: (aB d++[.str o,.str u,.int .i64 e])).length=20:=by simp[aA,ld]
 have zs:∀ z:List SV,z.length=20→aF z 0 (SV.int .i64 x :: (aB d++[.str o,.str u,.int .i64 e]))=SV.int .i64 x :: (aB d++[.str o,.str u,.int .i64 e]):=fun z hz=>b9 (by rw[l20,hz])
 have g16:(aB d++[.str o,.str u,.int .i64 e])[16]?=some (.str o):=by rw[List.getElem?_append_right (by rw[aA];omega),aA,ld];rfl
 have g17:(aB d++[.str o,.str u,.int .i64 e])[17]?=some (.str u):=by rw[List.getElem?_append_right (by rw[aA];omega),aA,ld];rfl
 have g18:(aB d++[.str o,.str u,.int .i64 e])[18]?=some (.int .i64 e):=by rw[List.getElem?_append_right (by rw[aA];omega),aA,ld];rfl
 have td:List.take 16 (aB d++[.str o,.str u,.int .i64 e])=aB d:=List.take_left' (by rw[aA,ld])
 have fd:=f37 (tS:=aO) d ld
 have fsp:SV.flatL (aB d++[.str o,.str u,.int .i64 e])=true:=by
  have:∀ l m:List SV,SV.flatL (l++m)=(SV.flatL l && SV.flatL m):=fun l m=>by
   induction l with
   | nil=>rfl
   | cons a l ih=>simp[SV.flatL,ih,Bool.and_assoc]
  rw[this,aX];rfl
 unfold zW
 rw[if_neg (by rw[hv];simp[hw])]
 simp only
 unfold Vy at f64
 have zsp:=zs [.int .i64 0,.int .u8 0,.int .u8 0,.int .u8 0,.int .u8 0,.int .u8 0,.int .u8 0,.int .u8 0,.int .u8 0,.int .u8 0,.int .u8 0,.int .u8 0,.int .u8 0,.int .u8 0,.int .u8 0,.int .u8 0,.int .u8 0,.str [],.str [],.int .i64 0] rfl
 clear zs
 by_cases he:e=0
 case neg=>
  have he':(e != 0)=true:=by simpa using he
  have k1:=k1 he (decide (0≤(xM S).1) && decide ((xM S).1 < jH ht * jH ht))
  rw[k1,if_pos he]
  generalize jH ht=W at *
  unfold dG at *
  simp only[hR,tk,fl,NV,↓NP,seval]
  refine aE fv ?_
  simp only[fl,NV,↓NP,seval]
  refine aE fw ?_
  simp only[c0,g,NV,↓NP,seval]
  refine aE f64 ?_
  simp only[fsp,zsp,l20,g18,he',NV,↓NP,bC,seval]
 subst he
 rw[k0 rfl]
 simp only[Nat.sub_self]
 clear k0 k1
 obtain⟨W0,W6⟩:=hWb
 generalize hX:gZ M s t R=X at *
 generalize jH ht=W at *
 by_cases hx:0≤x
 case neg=>
  have i0:decide (0≤x)=false:=decide_eq_false hx
  have hx':x < 0:=by omega
  have hE:pK 0 0 false=6:=rfl
  rw[i0,Bool.false_and,hE,if_pos (by decide)]
  unfold dG at *
  simp only[hR,tk,fl,NV,↓NP,seval]
  refine aE fv ?_
  simp only[fl,NV,↓NP,seval]
  refine aE fw ?_
  simp only[c0,g,NV,↓NP,seval]
  refine aE f64 ?_
  simp only[fsp,zsp,l20,g18,hx',NV,↓NP,undef,bC,seval]
 have i0:decide (0≤x)=true:=decide_eq_true hx
 have hx':¬ x < 0:=by omega
 rw[i0,Bool.true_and]
 by_cases hxW:x < W * W
 case neg=>
  have hge:x ≥ W * W:=by omega
  have hE:pK 0 0 false=6:=rfl
  rw[decide_eq_false hxW,hE,if_pos (by decide)]
  unfold dG at *
  simp only[hR,tk,fl,NV,↓NP,seval]
  refine aE fv ?_
  simp only[fl,NV,↓NP,seval]
  refine aE fw ?_
  simp only[c0,g,NV,↓NP,seval]
  refine aE f64 ?_
  simp only[fsp,zsp,l20,g18,hx',NV,↓NP,bC,seval]
  refine aE fc ?_
  simp only[hge,NV,↓NP,seval]
 have hge:¬ x ≥ W * W:=by omega
 have hE:pK 0 0 true=0:=rfl
 rw[decide_eq_true hxW,hE,if_neg (fun h=>h rfl)]
 obtain⟨n,rfl⟩:=Int.eq_ofNat_of_zero_le hx
 obtain⟨k,rfl⟩:=Int.eq_ofNat_of_zero_le W0
 have hkk:(k:Int) * (k:Int)≤64 * 64:=Int.mul_le_mul W6 W6 (by omega) (by omega)
 have q1:IntKind.i64.wrap ((n:Int).tdiv (k:Int))=(n:Int).tdiv (k:Int):=by
  have hd:=Nat.div_le_self n k
  rw[show (n:Int).tdiv (k:Int)=((n / k:Nat):Int) from rfl,Aa (by omega)]
 have c4:¬ (k:Int)=0:=hw
 have f1:=f42 P d o ht hP (by omega) (by omega)
 have f2:=f42 d X u ht ld (by omega) (by omega)
 unfold Il at f1 f2
 unfold BU
 generalize rJ P ht d o=V1 at *
 generalize rJ d ht X u=V2 at *
 obtain⟨i1,r1⟩:=V1
 obtain⟨i2,r2⟩:=V2
 simp only at *
 unfold dG at *
 simp only[hR,tk,fl,NV,↓NP,seval]
 refine aE fv ?_
 simp only[fl,NV,NJ,↓NP,seval]
 refine aE fw ?_
 simp only[c0,g,NV,↓NP,seval]
 refine aE f64 ?_
 simp only[fsp,zsp,l20,g18,hx',NV,↓NP,bC,seval]
 refine aE fc ?_
 simp only[hge,NV,↓NP,seval]
 refine aE fw ?_
 simp only[hP,td,l20,NV,↓NP,seval]
 refine aE fd ?_
 simp only[g16,NV,↓NP,seval]
 refine aE f1 ?_
 by_cases a1:r1=0
 case neg=>
  have z:(r1 != 0)=true:=by simpa using a1
  have cc:¬ (r1=0∧¬ i1=(n:Int).tdiv (k:Int)):=fun h=>a1 h.1
  simp only[if_neg cc,if_pos a1]
  simp only[z,NV,↓NP,seval]
 subst a1
 by_cases a2:i1=(n:Int).tdiv (k:Int)
 case neg=>
  have z:(i1 != (n:Int).tdiv (k:Int))=true:=by simpa using a2
  have cc:(0:Int)=0∧¬ i1=(n:Int).tdiv (k:Int):=⟨rfl,a2⟩
  simp only
  simp only[z,c4,q1,NV,NJ,↓NP,seval]
  have c8:¬ (8:Int)=0:=by decide
  simp only[a2,not_false_eq_true,if_true,c8,and_self]
 have z2:(i1 != (n:Int).tdiv (k:Int))=false:=by simpa using a2
 have cc:¬ ((0:Int)=0∧¬ i1=(n:Int).tdiv (k:Int)):=fun h=>h.2 a2
 simp only
 simp only[z2,c4,q1,hR,td,tk,fl,l20,NV,NJ,↓NP,seval]
 refine aE fx ?_
 simp only[fl,g17,NV,↓NP,seval]
 refine aE f2 ?_
 by_cases b1:r2=0
 case neg=>
  have z:(r2 != 0)=true:=by simpa using b1
  have cc:¬ (r2=0∧¬ i2=(n:Int).tmod (k:Int)):=fun h=>b1 h.1
  simp only[if_neg cc,if_pos b1]
  simp only[z,NV,↓NP,seval]
  simp[a2]
 subst b1
 by_cases b2:i2=(n:Int).tmod (k:Int)
 case neg=>
  have z:(i2 != (n:Int).tmod (k:Int))=true:=by simpa using b2
  have cc:(0:Int)=0∧¬ i2=(n:Int).tmod (k:Int):=⟨rfl,b2⟩
  simp only
  simp only[z,c4,NV,NJ,↓NP,seval]
  simp[a2,b2]
 have z3:(i2 != (n:Int).tmod (k:Int))=false:=by simpa using b2
 have cc:¬ ((0:Int)=0∧¬ i2=(n:Int).tmod (k:Int)):=fun h=>h.2 b2
 simp only
 simp only[z3,c4,NV,NJ,↓NP,seval]
 simp[a2,b2]
theorem Jy (P:List UInt8) (ht:Int) (M:List UInt8) (s t:Int) (R S:List UInt8) (hP:P.length=16) (hR:R.length=16) (hS:S.length≤2 ^ 20) (hs:kJ s) (ht':kJ t) :
  Fun Tryz.prog aO 22 [.agg (aB P),.int .i64 ht,.agg (dG M s t R S)] [] 0 (.tup [.int .i64 (zW P ht M s t R S).1,.int .i64 (zW P ht M s t R S).2]) [] 0:=by
 by_cases hc:jH ht=0∨nT M s t S=false
 ·have e:zW P ht M s t R S=(0,1):=if_pos hc
  rw[e]
  exact ABc P ht M s t R S hP hR hc
 ·rw[not_or] at hc
  exact h22 P ht M s t R S hP hR hS hs ht' hc.1 (by simpa using hc.2)
theorem h24 (P:List UInt8) (ht:Int) (M:List UInt8) (s t:Int) (R S:List UInt8) (M':List UInt8) (s' t':Int) (R' S':List UInt8) (hP:P.length=16) (hR:R.length=16) (hS:S.length≤2 ^ 20) (hR':R'.length=16) (hS':S'.length≤2 ^ 20)
  (hM:M.length≤2 ^ 20) (hM':M'.length≤2 ^ 20) (rs:kJ s) (rt:kJ t) (rs':kJ s') (rt':kJ t') :
  Fun Tryz.prog aO 24 [.agg (aB P),.int .i64 ht,.agg (dG M s t R S),.agg (dG M' s' t' R' S')] [] 0 (.bool (VZ (zW P ht M s t R S) (zW P ht M' s' t' R' S') (gZ M s t R) (gZ M' s' t' R'))) [] 0:=by
 refine dK Tryz.f24 (by kernel_rfl) (fun _=>rfl) ?_
 conv in aJ _ _=>(reduce;simp only[aH,seval])
 have fa:=Jy P ht M s t R S hP hR hS rs rt
 have fb:=Jy P ht M' s' t' R' S' hP hR' hS' rs' rt'
 have ga:=Yu (tS:=aO) M s t R S hM hR rs rt
 have gb:=Yu (tS:=aO) M' s' t' R' S' hM' hR' rs' rt'
 generalize gZ M s t R=X at *
 generalize gZ M' s' t' R'=Y at *
 generalize zW P ht M s t R S=A at *
 generalize zW P ht M' s' t' R' S'=B at *
 obtain⟨i,e⟩:=A
 obtain⟨j,f⟩:=B
 have tk:=fun x=>cP (x:=x) hR
 have fl:=dH R
 have tk':=fun x=>cP (x:=x) hR'
 have fl':=dH R'
 unfold dG VZ at *
 simp only at *
 simp only[hP,hR,tk,fl,NV,↓NP,seval]
 refine aE fa ?_
 simp only[hP,hR',tk',fl,fl',NV,↓NP,seval]
 refine aE fb ?_
 by_cases he:e=0
 case neg=>
  have z:(e==0)=false:=by simpa using he
  simp only[z,he,Bool.false_and,fl',NV,↓NP,undef,seval]
 subst he
 by_cases hf:f=0
 case neg=>
  have z:(f==0)=false:=by simpa using hf
  simp only[z,hf,Bool.false_and,fl',NV,↓NP,undef,seval]
 subst hf
 by_cases hij:i=j
 case neg=>
  have z:(i==j)=false:=by simpa using hij
  simp only[z,hij,Bool.false_and,fl',NV,↓NP,undef,seval]
 subst hij
 simp only[hR,tk,fl,fl',NV,↓NP,seval]
 refine aE ga ?_
 simp only[hR',tk',fl,fl',NV,↓NP,seval]
 refine aE gb ?_
 simp only[fl',NV,↓NP,seval]
 rfl
theorem h4 (P:List UInt8) (ht:Int) (M:List UInt8) (s t:Int) (R S:List UInt8) (M':List UInt8) (s' t':Int) (R' S':List UInt8) (hP:P.length=16) (hR:R.length=16) (hR':R'.length=16)
  (rs:kJ s) (rt:kJ t) (rs':kJ s') (rt':kJ t') :
  Fun Tryz.prog aO 4 [.agg (aB P),.int .i64 ht,.agg (dG M s t R S),.agg (dG M' s' t' R' S')] [] 0 (.bool true) [] 0:=by
 refine dK Tryz.f4 (by kernel_rfl) (fun _=>rfl) ?_
 conv in aJ _ _=>(reduce;simp only[aH,seval])
 have fa:=Qx (tS:=aO) M s t R S hR
 have fb:=Qx (tS:=aO) M' s' t' R' S' hR'
 have tk:=fun x=>cP (x:=x) hR
 have fl:=dH R
 have tk':=fun x=>cP (x:=x) hR'
 have fl':=dH R'
 by_cases Ta:ht > 2∧ht≤6
 ·obtain⟨c1,c2⟩:=Ta
  unfold dG at *
  simp only[NV,↓NP,seval]
  refine aE h9 ?_
  simp only[c1,c2,NV,↓NP,undef,seval]
 have cA:(ht > 2)=False∨((ht > 2)=True∧(ht≤6)=False):=by
  by_cases q:ht > 2
  ·exact .inr ⟨eq_true q,eq_false fun h=>Ta ⟨q,h⟩⟩
  ·exact .inl (eq_false q)
 by_cases hfa:M.length≤100∧S.length≤4000
 case neg=>
  rw[show (decide (M.length≤100) && decide (S.length≤4000))=false by simp;omega] at fa
  unfold dG at *
  rcases cA with c1|⟨c1,c2⟩
  ·simp only[NV,↓NP,seval]
   refine aE h9 ?_
   simp only[hR,tk,fl,c1,NV,↓NP,undef,seval]
   refine aE fa ?_
   simp only[fl,NV,↓NP,undef,seval]
  ·simp only[NV,↓NP,seval]
   refine aE h9 ?_
   simp only[hR,tk,fl,c1,c2,NV,↓NP,seval]
   refine aE fa ?_
   simp only[fl,NV,↓NP,undef,seval]
 rw[decide_eq_true hfa.1,decide_eq_true hfa.2,Bool.and_self] at fa
 by_cases hfb:M'.length≤100∧S'.length≤4000
 case neg=>
  rw[show (decide (M'.length≤100) && decide (S'.length≤4000))=false by simp;omega] at fb
  unfold dG at *
  rcases cA with c1|⟨c1,c2⟩
  ·simp only[NV,↓NP,seval]
   refine aE h9 ?_
   simp only[hR,tk,fl,c1,NV,↓NP,undef,seval]
   refine aE fa ?_
   simp only[hR',tk',fl,fl',NV,↓NP,seval]
   refine aE fb ?_
   simp only[fl',NV,↓NP,seval]
  ·simp only[NV,↓NP,seval]
   refine aE h9 ?_
   simp only[hR,tk,fl,c1,c2,NV,↓NP,seval]
   refine aE fa ?_
   simp only[hR',tk',fl,fl',NV,↓NP,seval]
   refine aE fb ?_
   simp only[fl',NV,↓NP,seval]
 rw[decide_eq_true hfb.1,decide_eq_true hfb.2,Bool.and_self] at fb
 have v1:=BV P ht M s t R S hP hR (by omega)
 have v2:=Jy P ht M s t R S hP hR (by omega) rs rt
 have k1:=h23 P ht M s t R S M' s' t' R' S' hP hR (by omega) hR' (by omega) (by omega) (by omega)
 have k2:=h24 P ht M s t R S M' s' t' R' S' hP hR (by omega) hR' (by omega) (by omega) (by omega) rs rt rs' rt'
 generalize VZ (zW P ht M s t R S) (zW P ht M' s' t' R' S') (gZ M s t R) (gZ M' s' t' R')=fk at *
 generalize zW P ht M s t R S=V at *
 obtain⟨i,e⟩:=V
 simp only at *
 unfold dG at *
 rcases cA with c1|⟨c1,c2⟩
 ·simp only[NV,↓NP,seval]
  refine aE h9 ?_
  simp only[hR,tk,fl,c1,NV,↓NP,undef,seval]
  refine aE fa ?_
  simp only[hR',tk',fl,fl',NV,↓NP,seval]
  refine aE fb ?_
  simp only[hP,hR,tk,fl,fl',NV,↓NP,seval]
  refine aE v1 ?_
  simp only[hP,hR,tk,fl,NV,↓NP,seval]
  refine aE v2 ?_
  simp only[hP,hR,hR',tk,tk',fl,fl',NV,↓NP,seval]
  refine aE k1 ?_
  simp only[hP,hR,hR',tk,tk',fl,fl',NV,↓NP,seval]
  refine aE k2 ?_
  simp only[fl,fl',NV,↓NP,seval]
 ·simp only[NV,↓NP,seval]
  refine aE h9 ?_
  simp only[hR,tk,fl,c1,c2,NV,↓NP,seval]
  refine aE fa ?_
  simp only[hR',tk',fl,fl',NV,↓NP,seval]
  refine aE fb ?_
  simp only[hP,hR,tk,fl,fl',NV,↓NP,seval]
  refine aE v1 ?_
  simp only[hP,hR,tk,fl,NV,↓NP,seval]
  refine aE v2 ?_
  simp only[hP,hR,hR',tk,tk',fl,fl',NV,↓NP,seval]
  refine aE k1 ?_
  simp only[hP,hR,hR',tk,tk',fl,fl',NV,↓NP,seval]
  refine aE k2 ?_
  simp only[fl,fl',NV,↓NP,seval]
end Go.Proofs.YtmhkkalbijbplaaGreatDoor
