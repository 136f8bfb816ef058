/- The proof, part Vq: ChkB, ChkC, ChkD, ApE, ApF, ApG, ApH, ApP. -/
import Derived.Test.YtmhkkalbijbplaaGreatDoorVp
set_option linter.unusedSimpArgs false
set_option linter.unusedVariables false
set_option maxRecDepth 100000
set_option maxHeartbeats 16000000
namespace Go.Proofs.YtmhkkalbijbplaaGreatDoor
open Go Go.Sx
def EV:GS
 | [.agg pc,.int .i64 N,.int .i64 i,.agg dc,.slc 0 0 16 h none],[(0,⟨.view,xc⟩)]=>match rQ pc,rQ dc,rQ xc with
  | some p,some d,some X=>if p.length=16∧d.length=16∧X.length=16 * h∧h≤6∧0 < h∧N=P2 h∧0≤i∧i.toNat < 2 ^ h then
   some (.bool (nV (fW i.toNat d X h)==p),[],1) else none
  | _,_,_=>none
 | [.agg pc,.int .i64 N,.int .i64 i,.agg dc,.val (.slice none 0 0)],[]=>match rQ pc,rQ dc with
  | some p,some d=>if p.length=16∧d.length=16∧N=P2 0∧i=0 then some (.bool (nV (dV 1 [d])==p),[],0) else none
  | _,_=>none
 | _,_=>none
theorem LH {h i:Nat} {p d X:List UInt8} (hp:p.length=16) (hh:h≤6) (h0:0 < h) (hi:i < 2 ^ h) (hd:d.length=16) (hX:X.length=16 * h) :
  EV [.agg (aB p),.int .i64 (P2 h),.int .i64 (i:Int),.agg (aB d),.slc 0 0 16 h none] [(0,⟨.view,aB X⟩)]=some (.bool (nV (fW i d X h)==p),[],1):=by
 unfold EV
 simp only[aT,Int.toNat_natCast]
 rw[if_pos ⟨hp,hd,hX,hh,h0,trivial,by omega,hi⟩]
theorem Pp {p d:List UInt8} (hp:p.length=16) (hd:d.length=16) :
  EV [.agg (aB p),.int .i64 (P2 0),.int .i64 0,.agg (aB d),.val (.slice none 0 0)] []=some (.bool (nV (dV 1 [d])==p),[],0):=by
 unfold EV
 simp only[aT]
 rw[if_pos ⟨hp,hd,trivial,trivial⟩]
theorem LI {f:FuncId}
  (H:∀ (h i:Nat) (p d X:List UInt8),p.length=16→h≤6→0 < h→i < 2 ^ h→d.length=16→X.length=16 * h →
   Fun Tryz.prog aO f [.agg (aB p),.int .i64 (P2 h),.int .i64 (i:Int),.agg (aB d),.slc 0 0 16 h none] [(0,⟨.view,aB X⟩)] 1 (.bool (nV (fW i d X h)==p)) [] 1)
  (Hz:∀ (p d:List UInt8),p.length=16→d.length=16 →
   Fun Tryz.prog aO f [.agg (aB p),.int .i64 (P2 0),.int .i64 0,.agg (aB d),.val (.slice none 0 0)] [] 0 (.bool (nV (dV 1 [d])==p)) [] 0):dQ Tryz.prog aO f EV:=by
 intro a0 m0 r m1 n1 h
 unfold EV at h
 split at h
 ·split at h
  ·rename_i p d X hp hd hX
   split at h
   ·rename_i hc
    cases h
    obtain⟨c1,c2,c3,c4,c5,rfl,c7,c8⟩:=hc
    obtain⟨k,rfl⟩:=Int.eq_ofNat_of_zero_le c7
    rw[b8 hp,b8 hd,b8 hX]
    rw[Int.toNat_natCast] at c8 ⊢
    exact⟨H _ k p d X c1 c4 c5 c8 c2 c3,by simp[dA]⟩
   ·cases h
  ·cases h
 ·split at h
  ·rename_i p d hp hd
   split at h
   ·rename_i hc
    cases h
    obtain⟨c1,c2,rfl,rfl⟩:=hc
    rw[b8 hp,b8 hd]
    exact⟨Hz p d c1 c2,by simp[dA]⟩
   ·cases h
  ·cases h
 ·cases h
theorem VL:dQ Tryz.prog aO 102 EV:=LI f64 AAk
theorem VM:dQ Tryz.prog aO 106 EV:=LI f68 AAn
def Bk:List SV→Option SV
 | [.agg cells,.int .i64 i,.str msg]=>match rQ cells with
  | some p=>if p.length=16∧msg.length≤2 ^ 30∧-9223372036854775808≤i∧i≤9223372036854775807 then some (.agg (aB (dE 6 [p,aP i,msg]))) else none
  | none=>none
 | _=>none
theorem A7 {p msg:List UInt8} {i:Int} (hp:p.length=16) (hm:msg.length≤2 ^ 30) (h1:-9223372036854775808≤i) (h2:i≤9223372036854775807) :
  Bk [.agg (aB p),.int .i64 i,.str msg]=some (.agg (aB (dE 6 [p,aP i,msg]))):=by
 unfold Bk
 simp only[aT]
 rw[if_pos ⟨hp,hm,h1,h2⟩]
theorem Dm {f:FuncId} (H:∀ (p msg:List UInt8) (i:Int),p.length=16→msg.length≤2 ^ 30→kJ i→Fun Tryz.prog aO f [.agg (aB p),.int .i64 i,.str msg] [] 0 (.agg (aB (dE 6 [p,aP i,msg]))) [] 0) :
  ∀ args r,Bk args=some r→Fun Tryz.prog aO f args [] 0 r [] 0∧(∀ η,SV.renL η args=args)∧∀ η,r.ren η=r:=by
 intro args r hr
 unfold Bk at hr
 split at hr
 ·split at hr
  ·rename_i p hp
   split at hr
   ·rename_i hc
    cases hr
    rw[b8 hp]
    exact⟨H p _ _ hc.1 hc.2.1 hc.2.2,fun η=>by simp only[SV.renL,SV.ren,aC],fun η=>by simp only[SV.renL,SV.ren,aC]⟩
   ·cases hr
  ·cases hr
 ·cases hr
structure Sg where
 i:Int
 u1:Nat
 e1:Int
 s:List UInt8
 u2:Nat
 e2:Int
 n:Nat
 u3:Nat
 e3:Int
 x:List UInt8
def pD (b:List UInt8):Sg:=
 let d:=cR b
 let t:=cJ (b.drop d.2.1)
 let q:=b.drop (d.2.1+t.2.1)
 ⟨d.1,d.2.1,d.2.2,t.1,t.2.1,t.2.2,kB q,uP q,fT q 16,rU q⟩
def rJ (p:List UInt8) (ht:Int) (msg sig:List UInt8):Int × Int:=
 if ht < 0∨6 < ht then (0,1) else if 1048576 < msg.length then (0,2) else
 let g:=pD sig
 if g.e1≠0 then (0,g.e1) else if g.e2≠0 then (0,g.e2) else if g.e3≠0 then (0,g.e3) else
 if g.u1+g.u2+g.u3≠sig.length∨g.i < 0∨g.i ≥ P2 ht.toNat∨(g.n:Int)≠ht then (0,6) else
 if g.s.length≠560 then (0,8) else
 if nV (fW g.i.toNat (tJ (dE 6 [p,aP g.i,msg]) g.s) g.x g.n)==p then (g.i,0) else (0,8)
def Il (p:List UInt8) (ht:Int) (msg sig:List UInt8):SV:=.tup [.int .i64 (rJ p ht msg sig).1,.int .i64 (rJ p ht msg sig).2]
theorem Pq {b s:List UInt8} {u:Nat} (h:cJ b=(s,u,0)):u≤b.length:=by
 unfold cJ at h
 split at h
 ·rename_i h1
  simp only[Prod.mk.injEq] at h
  exact absurd h.2.2 h1
 ·rename_i h1
  obtain⟨n,w,hx,h2,h3,h4⟩:=rF (s:=1) (by simpa using h1)
  rw[hx] at h
  simp only[Prod.mk.injEq,Int.toNat_natCast,Nat.div_one] at h h3
  omega
theorem Pr {b:List UInt8} (h:fT b 16=0):uP b≤b.length∧(rU b).length=16 * kB b:=by
 obtain⟨n,u,hx,h1,h2,h3⟩:=rF h
 have h4:16 * n≤b.length - u:=by have:=Nat.mul_le_mul_left 16 h2;have:=Nat.mul_div_le (b.length - u) 16;omega
 unfold uP rU kB
 rw[if_neg (by simpa using h),if_neg (by simpa using h),if_neg (by simpa using h),hx]
 simp only[Int.toNat_natCast,List.length_take,List.length_drop]
 omega
theorem LJ {b:List UInt8} (h:fT b 16≠0):kB b=0:=by unfold kB;rw[if_pos h]
theorem y6 {h:Nat} (hh:h≤6):P2 h≤64∧1≤P2 h:=by
 have:h=0∨h=1∨h=2∨h=3∨h=4∨h=5∨h=6:=by omega
 rcases this with rfl|rfl|rfl|rfl|rfl|rfl|rfl <;> decide
theorem G0 {h:Nat} (hh:h≤6):IntKind.i64.wrap (1 * 2 ^ (min h IntKind.i64.bits))=P2 h:=by
 have:h=0∨h=1∨h=2∨h=3∨h=4∨h=5∨h=6:=by omega
 rcases this with rfl|rfl|rfl|rfl|rfl|rfl|rfl <;> decide
theorem CT {p msg sig:List UInt8} {h:Nat} (hh:h≤6) (h3:msg.length≤1048576):rJ p h msg sig =
  (if (pD sig).e1≠0 then (0,(pD sig).e1) else if (pD sig).e2≠0 then (0,(pD sig).e2) else if (pD sig).e3≠0 then (0,(pD sig).e3) else
   if (pD sig).u1+(pD sig).u2+(pD sig).u3≠sig.length∨(pD sig).i < 0∨(pD sig).i ≥ P2 h∨((pD sig).n:Int)≠(h:Int) then (0,6) else
   if (pD sig).s.length≠560 then (0,8) else
   if nV (fW (pD sig).i.toNat (tJ (dE 6 [p,aP (pD sig).i,msg]) (pD sig).s) (pD sig).x (pD sig).n)==p then ((pD sig).i,0) else (0,8)):=by
 unfold rJ
 rw[if_neg (by omega),if_neg (by omega),Int.toNat_natCast]
def kL:List (FuncId × GS):=[(103,gU),(74,jY),(104,Ik),(106,EV)]
theorem Ps:∀ x∈kL,dQ Tryz.prog aO x.1 x.2:=by
 intro x hx
 simp only[kL,List.mem_cons,List.not_mem_nil,or_false] at hx
 rcases hx with rfl|rfl|rfl|rfl
 ·exact xK
 ·exact A6 f49
 ·exact VK
 ·exact VM
def pV:Tab:=⟨[(94,Bk),(105,ET)],[]⟩
theorem SQ:TabX Tryz.prog aO pV:=by
 refine⟨fun x h args r hr=>?_,fun x h=>by simp[pV] at h⟩
 simp only[pV,List.mem_cons,List.not_mem_nil,or_false] at h
 rcases h with rfl|rfl
 ·obtain⟨h1,h2,h3⟩:=Dm (f:=94) (fun p msg i h1 h2 h3=>f67 p msg i h1 h2 h3) args r hr
  exact⟨h1,h2,fun η=>by simp only[SV.renL,h3]⟩
 ·obtain⟨h1,h2,h3⟩:=Uk args r hr
  exact⟨h1,h2,fun η=>by simp only[SV.renL,h3]⟩
def EE:bG:=dR kL (gT pV)
theorem VN:∀ f a m n K,EE f a m n K→aY Tryz.prog aO f a m n K:=bA Ps (cN SQ)
theorem oP (b:List UInt8) (o:Nat):List.take (b.drop o).length (List.drop o (aB b))=aB (b.drop o):=by
 simp only[aB,List.map_drop,List.length_drop]
 rw[List.take_of_length_le (by simp)]
theorem f42 (p msg sig:List UInt8) (ht:Int) (hp:p.length=16) (hm:msg.length≤2 ^ 40) (hs:sig.length≤2 ^ 30) :
  Fun Tryz.prog aO 65 [.agg (aB p),.int .i64 ht,.str msg,.str sig] [] 0 (Il p ht msg sig) [] 0:=by
 refine bT none EE VN Z5 (Nat.le_of_ble_eq_true rfl) (fun η=>by simp only[Il,SV.ren,SV.renL]) ?_
 conv in aJ _ _=>(reduce;simp only[aH,seval])
 rw[aQ]
 unfold Il
 have lp:(aB p).length=16:=by rw[aA,hp]
 have tp:=cI hp
 have ms:msg.map SV.byte=aB msg:=rfl
 have ss:sig.map SV.byte=aB sig:=rfl
 have ls:(aB sig).length=sig.length:=aA sig
 have ts:=a9 sig
 by_cases h1:ht < 0
 ·have hv:rJ p ht msg sig=(0,1):=by unfold rJ;rw[if_pos (Or.inl h1)]
  simp only[EE,kL,pV,h1,hv,undef,BC,↓PC,seval]
 by_cases h2:ht > 6
 ·have hv:rJ p ht msg sig=(0,1):=by unfold rJ;rw[if_pos (Or.inr h2)]
  simp only[EE,kL,pV,h1,h2,hv,BC,↓PC,seval]
 by_cases h3:(msg.length:Int) > 1048576
 ·have hv:rJ p ht msg sig=(0,2):=by unfold rJ;rw[if_neg (by omega),if_pos (by omega)]
  simp only[EE,kL,pV,h1,h2,h3,hv,BC,↓PC,seval]
 obtain⟨h,rfl⟩:∃ h:Nat,ht=(h:Int):=⟨ht.toNat,by omega⟩
 have hh:h≤6:=by omega
 have hv:=CT (p:=p) (msg:=msg) (sig:=sig) hh (by omega)
 rcases hx:cR sig with⟨i,u1,e1⟩
 have hb40:sig.length≤2 ^ 40:=by omega
 have g1:gU [.slc 0 0 1 sig.length none] [(0,⟨.view,aB sig⟩)]=some (eC (i,u1,e1),[],1):=by
  unfold gU
  simp only[aT,jO,hb40,and_self,if_true,hx]
 simp only[pD,hx] at hv
 rcases sU hx with⟨rfl,hR,hu,_⟩|⟨he,rfl,rfl⟩
 ·rw[if_neg (by simp)] at hv
  have w1:(0:Int)≤(u1:Int):=by omega
  have w2:(u1:Int)≤(sig.length:Int):=by omega
  have lb1:sig.length - u1=(sig.drop u1).length:=by simp
  have tb1:=oP sig u1
  have k1:u1+(sig.drop u1).length≤sig.length:=by simp;omega
  rcases hy:cJ (sig.drop u1) with⟨s,u2,e2⟩
  have hb1:(sig.drop u1).length≤2 ^ 40:=by simp;omega
  have g2:jY [.slc 0 0 1 (sig.drop u1).length none] [(0,⟨.view,aB (sig.drop u1)⟩)]=some (j9 (s,u2,e2),[],1):=by
   unfold jY
   simp only[aT]
   rw[if_pos ⟨trivial,hb1⟩,hy]
  simp only[hy] at hv
  by_cases he2:e2=0
  ·subst he2
   rw[if_neg (by simp)] at hv
   have hu2:=Pq hy
   have w3:IntKind.i64.wrap ((u1:Int)+(u2:Int))=((u1+u2:Nat):Int):=by rw[aD (by simp at hu2;omega) (by simp at hu2;omega)];omega
   have w4:(0:Int)≤((u1+u2:Nat):Int):=by omega
   have w5:((u1+u2:Nat):Int)≤(sig.length:Int):=by simp at hu2;omega
   have lb2:sig.length - (u1+u2)=(sig.drop (u1+u2)).length:=by simp
   have tb2:=oP sig (u1+u2)
   have k2:u1+u2+(sig.drop (u1+u2)).length≤sig.length:=by simp;simp at hu2;omega
   have g3:=CS (b:=sig.drop (u1+u2)) (by simp;omega)
   generalize hB2:sig.drop (u1+u2)=b2 at *
   generalize hB1:sig.drop u1=b1 at *
   by_cases he3:fT b2 16=0
   ·rw[if_neg (by simpa using he3)] at hv
    obtain⟨hu3,hxl⟩:=Pr he3
    have w6:IntKind.i64.wrap (((u1+u2:Nat):Int)+(uP b2:Int))=((u1+u2+uP b2:Nat):Int):=by rw[aD (by omega) (by omega)];omega
    simp only[zT,he3] at g3
    generalize rU b2=X at *
    generalize uP b2=u3 at *
    generalize kB b2=n at *
    have h0h:(0:Int)≤(h:Int):=by omega
    have hc:(u1+u2+u3≠sig.length∨i < 0∨i ≥ P2 h∨(n:Int)≠(h:Int))∨(u1+u2+u3=sig.length∧0≤i∧i < P2 h∧n=h):=by omega
    have hsh:=G0 hh
    have e64:=y6 hh
    rcases hc with hc|⟨c1,c2,c3,rfl⟩
    ·rw[if_pos hc] at hv
     rcases Nat.eq_zero_or_pos n with hn|hn
     ·simp only[lJ hn,jU hn,lM hn] at g3
      by_cases c1:u1+u2+u3=sig.length
      ·by_cases c2:i < 0
       ·have q1:(((u1+u2+u3:Nat):Int) != (sig.length:Int))=false:=by simp;omega
        simp only[EE,kL,pV,h1,h2,h3,ss,↓g1,↓g2,↓g3,ls,ts,eC,j9,w1,w2,w3,w4,w5,w6,lb1,tb1,k1,lb2,tb2,k2,hv,Option.map_none,Int.le_refl,q1,c2,undef,BC,↓PC,seval]
       ·by_cases c3:i ≥ P2 h
        ·have q1:(((u1+u2+u3:Nat):Int) != (sig.length:Int))=false:=by simp;omega
         simp only[EE,kL,pV,h1,h2,h3,ss,↓g1,↓g2,↓g3,ls,ts,eC,j9,w1,w2,w3,w4,w5,w6,lb1,tb1,k1,lb2,tb2,k2,hv,h0h,Option.map_none,Int.le_refl,q1,c2,c3,hsh,undef,BC,↓PC,seval]
        ·have q1:(((u1+u2+u3:Nat):Int) != (sig.length:Int))=false:=by simp;omega
         have q2:((0:Int) != (h:Int))=true:=by simp;omega
         simp only[EE,kL,pV,h1,h2,h3,ss,↓g1,↓g2,↓g3,ls,ts,eC,j9,w1,w2,w3,w4,w5,w6,lb1,tb1,k1,lb2,tb2,k2,hv,h0h,Option.map_none,Int.le_refl,q1,q2,c2,c3,hsh,BC,↓PC,seval]
      ·have q1:(((u1+u2+u3:Nat):Int) != (sig.length:Int))=true:=by simp;omega
       simp only[EE,kL,pV,h1,h2,h3,ss,↓g1,↓g2,↓g3,ls,ts,eC,j9,w1,w2,w3,w4,w5,w6,lb1,tb1,k1,lb2,tb2,k2,hv,Option.map_none,Int.le_refl,q1,undef,BC,↓PC,seval]
     ·simp only[eL hn,eE hn,eO hn] at g3
      by_cases c1:u1+u2+u3=sig.length
      ·by_cases c2:i < 0
       ·have q1:(((u1+u2+u3:Nat):Int) != (sig.length:Int))=false:=by simp;omega
        simp only[EE,kL,pV,h1,h2,h3,ss,↓g1,↓g2,↓g3,ls,ts,eC,j9,w1,w2,w3,w4,w5,w6,lb1,tb1,k1,lb2,tb2,k2,hv,Option.map_none,Int.le_refl,q1,c2,undef,BC,↓PC,seval]
       ·by_cases c3:i ≥ P2 h
        ·have q1:(((u1+u2+u3:Nat):Int) != (sig.length:Int))=false:=by simp;omega
         simp only[EE,kL,pV,h1,h2,h3,ss,↓g1,↓g2,↓g3,ls,ts,eC,j9,w1,w2,w3,w4,w5,w6,lb1,tb1,k1,lb2,tb2,k2,hv,h0h,Option.map_none,Int.le_refl,q1,c2,c3,hsh,undef,BC,↓PC,seval]
        ·have q1:(((u1+u2+u3:Nat):Int) != (sig.length:Int))=false:=by simp;omega
         have q2:((n:Int) != (h:Int))=true:=by simp;omega
         simp only[EE,kL,pV,h1,h2,h3,ss,↓g1,↓g2,↓g3,ls,ts,eC,j9,w1,w2,w3,w4,w5,w6,lb1,tb1,k1,lb2,tb2,k2,hv,h0h,Option.map_none,Int.le_refl,q1,q2,c2,c3,hsh,BC,↓PC,seval]
      ·have q1:(((u1+u2+u3:Nat):Int) != (sig.length:Int))=true:=by simp;omega
       simp only[EE,kL,pV,h1,h2,h3,ss,↓g1,↓g2,↓g3,ls,ts,eC,j9,w1,w2,w3,w4,w5,w6,lb1,tb1,k1,lb2,tb2,k2,hv,Option.map_none,Int.le_refl,q1,undef,BC,↓PC,seval]
    ·rw[if_neg (by omega)] at hv
     obtain⟨k,rfl⟩:∃ k:Nat,i=(k:Int):=⟨i.toNat,by omega⟩
     have q1:(((u1+u2+u3:Nat):Int) != (sig.length:Int))=false:=by simp;omega
     have c3':¬ (k:Int) ≥ P2 n:=by omega
     have c2':¬ (k:Int) < 0:=by omega
     have kn:k < 2 ^ n:=by have c9:((k:Nat):Int) < ((2 ^ n:Nat):Int):=c3;exact_mod_cast c9
     have gd:=A7 (p:=p) (msg:=msg) (i:=(k:Int)) hp (by omega) hR.1 hR.2
     have hD:=bK 6 [p,aP (k:Int),msg]
     rw[Int.toNat_natCast] at hv
     generalize dE 6 [p,aP (k:Int),msg]=D at *
     have lD:(aB D).length=16:=by rw[aA,hD]
     have tD:=cI hD
     by_cases h560:s.length=560
     ·rw[if_neg (by omega)] at hv
      have gr:=Da hD h560
      have hL:(tJ D s).length=16:=bK _ _
      generalize tJ D s=L at *
      have lL:(aB L).length=16:=by rw[aA,hL]
      have tL:=cI hL
      rcases Nat.eq_zero_or_pos n with hn|hn
      ·subst hn
       obtain rfl:k=0:=by simpa using kn
       have gv:=Pp (d:=L) hp hL
       simp only[lJ,jU,lM] at g3
       have hi0:fW 0 L X 0=dV 1 [L]:=rfl
       rw[hi0] at hv
       have hsh0:IntKind.i64.wrap (1 * 2 ^ (min 0 IntKind.i64.bits))=P2 0:=by decide
       have c30:¬ (0:Int) ≥ P2 0:=by decide
       have n0:((0:Nat):Int)=0:=rfl
       rw[n0] at hv gd
       generalize hB:(nV (dV 1 [L])==p)=B at *
       cases B
       ·simp only[Bool.false_eq_true,if_false] at hv
        simp only[EE,kL,pV,h3,ss,↓g1,↓g2,↓g3,ls,ts,eC,j9,w1,w2,w3,w4,w5,w6,lb1,tb1,k1,lb2,tb2,k2,hv,Option.map_none,Int.le_refl,q1,hsh0,c30,lp,tp,↓gd,↓gr,↓gv,lL,tL,n0,bC,aF,BC,↓PC,seval]
       ·simp only[if_true] at hv
        simp only[EE,kL,pV,h3,ss,↓g1,↓g2,↓g3,ls,ts,eC,j9,w1,w2,w3,w4,w5,w6,lb1,tb1,k1,lb2,tb2,k2,hv,Option.map_none,Int.le_refl,q1,hsh0,c30,lp,tp,↓gd,↓gr,↓gv,lL,tL,n0,bC,aF,BC,↓PC,seval]
      ·have gv:=LH (d:=L) hp hh hn kn hL hxl
       simp only[eL hn,eE hn,eO hn] at g3
       have q2:((n:Int) != (n:Int))=false:=by simp
       have lX:(aB X).length=16 * n:=by rw[aA,hxl]
       have tX:List.take (16 * n) (aB X)=aB X:=List.take_of_length_le (by omega)
       have tX2:List.take (n * 16) (aB X)=aB X:=List.take_of_length_le (by omega)
       have b16:n * 16≤16 * n:=by omega
       generalize hB:(nV (fW k L X n)==p)=B at *
       cases B
       ·simp only[Bool.false_eq_true,if_false] at hv
        simp only[EE,kL,pV,h1,h2,h3,ss,↓g1,↓g2,↓g3,ls,ts,eC,j9,w1,w2,w3,w4,w5,w6,lb1,tb1,k1,lb2,tb2,k2,hv,h0h,Option.map_none,Int.le_refl,q1,q2,hsh,c2',c3',lp,tp,↓gd,↓gr,↓gv,lL,tL,lX,tX2,b16,bC,aF,BC,↓PC,seval]
       ·simp only[if_true] at hv
        simp only[EE,kL,pV,h1,h2,h3,ss,↓g1,↓g2,↓g3,ls,ts,eC,j9,w1,w2,w3,w4,w5,w6,lb1,tb1,k1,lb2,tb2,k2,hv,h0h,Option.map_none,Int.le_refl,q1,q2,hsh,c2',c3',lp,tp,↓gd,↓gr,↓gv,lL,tL,lX,tX2,b16,bC,aF,BC,↓PC,seval]
     ·rw[if_pos h560] at hv
      have gr:=GM hD h560
      have z16l:bY.length=16:=by decide
      rcases Nat.eq_zero_or_pos n with hn|hn
      ·simp only[lJ hn,jU hn,lM hn] at g3
       have q2:((0:Int) != (n:Int))=false:=by simp;omega
       simp only[EE,kL,pV,h1,h2,h3,ss,↓g1,↓g2,↓g3,ls,ts,eC,j9,w1,w2,w3,w4,w5,w6,lb1,tb1,k1,lb2,tb2,k2,hv,h0h,Option.map_none,Int.le_refl,q1,q2,hsh,c2',c3',lp,tp,↓gd,↓gr,z16l,bC,aF,BC,↓PC,seval]
      ·simp only[eL hn,eE hn,eO hn] at g3
       have q2:((n:Int) != (n:Int))=false:=by simp
       simp only[EE,kL,pV,h1,h2,h3,ss,↓g1,↓g2,↓g3,ls,ts,eC,j9,w1,w2,w3,w4,w5,w6,lb1,tb1,k1,lb2,tb2,k2,hv,h0h,Option.map_none,Int.le_refl,q1,q2,hsh,c2',c3',lp,tp,↓gd,↓gr,z16l,bC,aF,BC,↓PC,seval]
   ·rw[if_pos he3] at hv
    have he':(fT b2 16 != 0)=true:=by simpa using he3
    have z3:=LJ he3
    simp only[zT,lJ z3,jU z3,lM z3] at g3
    simp only[EE,kL,pV,h1,h2,h3,ss,↓g1,↓g2,↓g3,ls,ts,eC,j9,w1,w2,w3,w4,w5,lb1,tb1,k1,lb2,tb2,k2,he',hv,Option.map_none,Int.le_refl,BC,↓PC,seval]
  ·rw[if_pos he2] at hv
   have he':(e2 != 0)=true:=by simpa using he2
   generalize hB1:sig.drop u1=b1 at *
   simp only[EE,kL,pV,h1,h2,h3,ss,↓g1,↓g2,ls,ts,eC,j9,w1,w2,lb1,tb1,k1,he',hv,Option.map_none,Int.le_refl,BC,↓PC,seval]
 ·rw[if_pos he] at hv
  have he':(e1 != 0)=true:=by simpa using he
  simp only[EE,kL,pV,h1,h2,h3,ss,↓g1,ls,ts,eC,he',hv,BC,↓PC,seval]
theorem QI {b s:List UInt8} {u:Nat} {e:Int} (h:cJ b=(s,u,e)) (he:e≠0):kB b=0:=by
 refine LJ fun uT=>?_
 obtain⟨n,w,hx,h1,h2,h3⟩:=rF uT
 have h4:n≤b.length - w:=Nat.le_trans h2 (Nat.div_le_self _ _)
 have h5:fT b 1=0:=by
  unfold fT
  rw[hx]
  simp only[Nat.div_one]
  rw[if_neg (by simp),if_neg (by omega),if_neg (by omega)]
 unfold cJ at h
 rw[if_neg (by simpa using h5)] at h
 simp only[Prod.mk.injEq] at h
 exact he h.2.2.symm
theorem QJ {b:List UInt8} (h:(cR b).2.2≠0):kB b=0:=LJ (by unfold fT;rw[if_pos h];exact h)
def FU:List (FuncId × GS):=[(81,YI),(96,nR),(98,jY),(100,Ik),(102,EV)]
theorem QK:∀ x∈FU,dQ Tryz.prog aO x.1 x.2:=by
 intro x hx
 simp only[FU,List.mem_cons,List.not_mem_nil,or_false] at hx
 rcases hx with rfl|rfl|rfl|rfl|rfl
 ·exact VG
 ·exact Dk
 ·exact A6 f60
 ·exact VJ
 ·exact VL
def Jt:Tab:=⟨[(89,Bk),(101,ET)],[]⟩
theorem S8:TabX Tryz.prog aO Jt:=by
 refine⟨fun x h args r hr=>?_,fun x h=>by simp[Jt] at h⟩
 simp only[Jt,List.mem_cons,List.not_mem_nil,or_false] at h
 rcases h with rfl|rfl
 ·obtain⟨h1,h2,h3⟩:=Dm (f:=89) (fun p msg i h1 h2 _=>f63 p msg i h1 h2) args r hr
  exact⟨h1,h2,fun η=>by simp only[SV.renL,h3]⟩
 ·obtain⟨h1,h2,h3⟩:=Uj args r hr
  exact⟨h1,h2,fun η=>by simp only[SV.renL,h3]⟩
def YT:bG:=iB 99 (aY Tryz.prog aO) (iB 136 (aY Tryz.prog aO) (iB 137 (aY Tryz.prog aO) (dR FU (gT Jt))))
theorem VW:∀ f a m n K,YT f a m n K→aY Tryz.prog aO f a m n K:=eZ (eZ (eZ (bA QK (cN S8))))
theorem f41 (p msg sig:List UInt8) (ht:Int) (hp:p.length=16) (hm:msg.length≤2 ^ 40) (hs:sig.length≤2 ^ 30) :
  Fun Tryz.prog aO 63 [.agg (aB p),.int .i64 ht,.str msg,.str sig] [] 0 (Il p ht msg sig) [] 0:=by
 refine bT none YT VW Z4 (Nat.le_of_ble_eq_true rfl) (fun η=>by simp only[Il,SV.ren,SV.renL]) ?_
 conv in aJ _ _=>(reduce;simp only[aH,seval])
 rw[aQ]
 unfold Il
 have lp:(aB p).length=16:=by rw[aA,hp]
 have tp:=cI hp
 have ls:(aB sig).length=sig.length:=aA sig
 have ts:=a9 sig
 by_cases Yw:ht < 0∨6 < ht
 ·have hv:rJ p ht msg sig=(0,1):=by unfold rJ;rw[if_pos Yw]
  have gh:YI [.int .i64 ht] []=some (.bool false,[],0):=by
   have:(decide (0≤ht) && decide (ht≤6))=false:=by rcases Yw with h|h <;> simp <;> omega
   show some (SV.bool (decide (0≤ht) && decide (ht≤6)),([]:bL),0)=_
   rw[this]
  simp only[YT,FU,Jt,↓gh,hv,BC,↓PC,seval]
 have gh:YI [.int .i64 ht] []=some (.bool true,[],0):=by
  have:(decide (0≤ht) && decide (ht≤6))=true:=by simp;omega
  show some (SV.bool (decide (0≤ht) && decide (ht≤6)),([]:bL),0)=_
  rw[this]
 by_cases h3:(msg.length:Int) > 1048576
 ·have hv:rJ p ht msg sig=(0,2):=by unfold rJ;rw[if_neg Yw,if_pos (by omega)]
  simp only[YT,FU,Jt,↓gh,h3,hv,BC,↓PC,seval]
 obtain⟨h,rfl⟩:∃ h:Nat,ht=(h:Int):=⟨ht.toNat,by omega⟩
 have hh:h≤6:=by omega
 have hv:=CT (p:=p) (msg:=msg) (sig:=sig) hh (by omega)
 simp only[YT,FU,Jt,↓gh,h3,BC,↓PC,seval]
 refine⟨[],_,_,_,_,_,f58 sig,rfl,trivial,trivial,trivial,by simp,⟨fun _=>rfl,fun _=>rfl,fun _=>rfl,trivial⟩,?_⟩
 simp only[BC,↓PC,seval]
 refine rA (e:=0) (o:=0) (l:=sig.length) rfl rfl (by decide) ?_
 rcases hx:cR sig with⟨i,u1,e1⟩
 have hb40:sig.length≤2 ^ 40:=by omega
 have g1:nR [.slc 0 0 1 sig.length none] [(0,⟨.view,aB sig⟩)]=some (eC (i,u1,e1),[],1):=by
  unfold nR
  simp only[aT,jO,hb40,and_self,if_true,hx]
 simp only[pD,hx] at hv
 simp only[↓g1,ls,ts,eC,BC,↓PC,seval]
 rcases sU hx with⟨rfl,hR,hu,_⟩|⟨he,rfl,rfl⟩
 case inr=>
  rw[if_pos he] at hv
  have he':(e1 != 0)=true:=by simpa using he
  have z3:kB sig=0:=QJ (by rw[hx];exact he)
  rcases hy:cJ sig with⟨s,u2,e2⟩
  have g2:jY [.slc 0 0 1 sig.length none] [(0,⟨.view,aB sig⟩)]=some (j9 (s,u2,e2),[],1):=by
   unfold jY
   simp only[aT]
   rw[if_pos ⟨trivial,hb40⟩,hy]
  have g3:=CS (b:=sig) (by omega)
  simp only[zT,lJ z3,jU z3,lM z3] at g3
  refine tK (b:=sig) (o:=0) (e0:=0) (e1:=e1) rfl rfl rfl (by decide) (Nat.zero_le _) (Or.inr ⟨rfl,Or.inl ⟨rfl,he,rfl⟩⟩) ?_
  simp only[BC,↓PC,seval]
  refine rA (e:=e1) (o:=0) (l:=sig.length) rfl rfl (by decide) ?_
  simp only[ls,ts,j9,↓g2,BC,↓PC,seval]
  refine tK (b:=sig) (o:=0) (e0:=e1) (e1:=e1) rfl rfl rfl (by decide) (Nat.zero_le _) (Or.inr ⟨rfl,Or.inr ⟨he,rfl⟩⟩) ?_
  simp only[BC,↓PC,seval]
  refine rA (e:=e1) (o:=0) (l:=sig.length) rfl rfl (by decide) ?_
  simp only[ls,ts,↓g3,BC,↓PC,seval]
  refine tK (b:=sig) (o:=0) (e0:=e1) (e1:=e1) rfl rfl rfl (by decide) (Nat.zero_le _) (Or.inr ⟨rfl,Or.inr ⟨he,rfl⟩⟩) ?_
  simp only[BC,↓PC,seval]
  refine rA (e:=e1) (o:=0) (l:=sig.length) rfl rfl (by decide) ?_
  simp only[he',hv,BC,↓PC,seval]
 rw[if_neg (by simp)] at hv
 have lb1:sig.length - u1=(sig.drop u1).length:=by simp
 have tb1:=oP sig u1
 have k1:u1+(sig.drop u1).length≤sig.length:=by simp;omega
 rcases hy:cJ (sig.drop u1) with⟨s,u2,e2⟩
 have hb1:(sig.drop u1).length≤2 ^ 40:=by simp;omega
 have g2:jY [.slc 0 0 1 (sig.drop u1).length none] [(0,⟨.view,aB (sig.drop u1)⟩)]=some (j9 (s,u2,e2),[],1):=by
  unfold jY
  simp only[aT]
  rw[if_pos ⟨trivial,hb1⟩,hy]
 simp only[hy] at hv
 refine tK (b:=sig) (o:=0) (e0:=0) (e1:=0) (D:=.slc 3 u1 1 (sig.drop u1).length none) rfl rfl rfl (by decide) (Nat.zero_le _) (Or.inl ⟨rfl,rfl,u1,rfl,by simpa using hu,by rw[Nat.zero_add],rfl⟩) ?_
 simp only[BC,↓PC,seval]
 refine rA (e:=0) (o:=u1) (l:=(sig.drop u1).length) rfl rfl (by decide) ?_
 simp only[ls,j9,k1,tb1,↓g2,BC,↓PC,seval]
 by_cases he2:e2=0
 case neg=>
  rw[if_pos he2] at hv
  have he':(e2 != 0)=true:=by simpa using he2
  have z3:=QI hy he2
  have g3:=CS (b:=sig.drop u1) (by simp;omega)
  simp only[zT,lJ z3,jU z3,lM z3] at g3
  refine tK (b:=sig) (o:=u1) (e0:=0) (e1:=e2) rfl rfl rfl (by decide) hu (Or.inr ⟨rfl,Or.inl ⟨rfl,he2,rfl⟩⟩) ?_
  simp only[BC,↓PC,seval]
  refine rA (e:=e2) (o:=u1) (l:=(sig.drop u1).length) rfl rfl (by decide) ?_
  simp only[ls,↓g3,k1,tb1,BC,↓PC,seval]
  refine tK (b:=sig) (o:=u1) (e0:=e2) (e1:=e2) rfl rfl rfl (by decide) hu (Or.inr ⟨rfl,Or.inr ⟨he2,rfl⟩⟩) ?_
  simp only[BC,↓PC,seval]
  refine rA (e:=e2) (o:=u1) (l:=(sig.drop u1).length) rfl rfl (by decide) ?_
  simp only[he',hv,BC,↓PC,seval]
 subst he2
 rw[if_neg (by simp)] at hv
 have hu2:=Pq hy
 have hu12:u1+u2≤sig.length:=by simp at hu2;omega
 have tb2:=oP sig (u1+u2)
 have k2:u1+u2+(sig.drop (u1+u2)).length≤sig.length:=by simp;omega
 have g3:=CS (b:=sig.drop (u1+u2)) (by simp;omega)
 refine tK (b:=sig) (o:=u1) (e0:=0) (e1:=0) (D:=.slc 3 (u1+u2) 1 (sig.drop (u1+u2)).length none) rfl rfl rfl (by decide) hu (Or.inl ⟨rfl,rfl,u2,rfl,hu2,rfl,rfl⟩) ?_
 simp only[BC,↓PC,seval]
 refine rA (e:=0) (o:=(u1+u2)) (l:=(sig.drop (u1+u2)).length) rfl rfl (by decide) ?_
 by_cases he3:fT (sig.drop (u1+u2)) 16=0
 case neg=>
  rw[if_pos he3] at hv
  have he':(fT (sig.drop (u1+u2)) 16 != 0)=true:=by simpa using he3
  have z3:=LJ he3
  simp only[zT,lJ z3,jU z3,lM z3] at g3
  simp only[ls,k2,tb2,↓g3,BC,↓PC,seval]
  refine tK (b:=sig) (o:=(u1+u2)) (e0:=0) (e1:=(fT (sig.drop (u1+u2)) 16)) rfl rfl rfl (by decide) hu12 (Or.inr ⟨rfl,Or.inl ⟨rfl,he3,rfl⟩⟩) ?_
  simp only[BC,↓PC,seval]
  refine rA (e:=(fT (sig.drop (u1+u2)) 16)) (o:=(u1+u2)) (l:=(sig.drop (u1+u2)).length) rfl rfl (by decide) ?_
  simp only[he',hv,BC,↓PC,seval]
 rw[if_neg (by simpa using he3)] at hv
 obtain⟨hu3,hxl⟩:=Pr he3
 simp only[zT,he3] at g3
 generalize rU (sig.drop (u1+u2))=X at *
 generalize uP (sig.drop (u1+u2))=u3 at *
 generalize kB (sig.drop (u1+u2))=n at *
 have hu123:u1+u2+u3≤sig.length:=by simp at hu3;omega
 have h0h:(0:Int)≤(h:Int):=by omega
 have hc:(u1+u2+u3≠sig.length∨i < 0∨i ≥ P2 h∨(n:Int)≠(h:Int))∨(u1+u2+u3=sig.length∧0≤i∧i < P2 h∧n=h):=by omega
 have hsh:=G0 hh
 have e64:=y6 hh
 rcases Nat.eq_zero_or_pos n with hn|hn
 ·simp only[lJ hn,jU hn,lM hn] at g3
  simp only[ls,k2,tb2,↓g3,BC,↓PC,seval]
  refine tK (b:=sig) (o:=(u1+u2)) (e0:=0) (e1:=0) (D:=.slc 3 (u1+u2+u3) 1 (sig.drop (u1+u2+u3)).length none) rfl rfl rfl (by decide) hu12 (Or.inl ⟨rfl,rfl,u3,rfl,hu3,rfl,rfl⟩) ?_
  simp only[BC,↓PC,seval]
  refine rA (e:=0) (o:=(u1+u2+u3)) (l:=(sig.drop (u1+u2+u3)).length) rfl rfl (by decide) ?_
  by_cases c1:u1+u2+u3=sig.length
  case neg=>
   rw[if_pos (Or.inl c1)] at hv
   have q1:((sig.drop (u1+u2+u3)).length:Int) > 0:=by simp;omega
   simp only[q1,hv,undef,BC,↓PC,seval]
  have q1:¬ ((sig.drop (u1+u2+u3)).length:Int) > 0:=by simp;omega
  by_cases c2:i < 0
  case pos=>
   rw[if_pos (Or.inr (Or.inl c2))] at hv
   simp only[q1,c2,hv,undef,BC,↓PC,seval]
  by_cases c3:i ≥ P2 h
  case pos=>
   rw[if_pos (Or.inr (Or.inr (Or.inl c3)))] at hv
   simp only[q1,c2,c3,h0h,hsh,hv,undef,BC,↓PC,seval]
  by_cases c4:n=h
  case neg=>
   rw[if_pos (by omega)] at hv
   have q2:((0:Int) != (h:Int))=true:=by simp;omega
   simp only[q1,q2,c2,c3,h0h,hsh,hv,BC,↓PC,seval]
  subst c4
  rw[if_neg (by omega)] at hv
  obtain⟨k,rfl⟩:∃ k:Nat,i=(k:Int):=⟨i.toNat,by omega⟩
  have kn:k < 2 ^ n:=by have c9:((k:Nat):Int) < ((2 ^ n:Nat):Int):=Int.not_le.1 c3;exact_mod_cast c9
  have gd:=A7 (p:=p) (msg:=msg) (i:=(k:Int)) hp (by omega) hR.1 hR.2
  have hD:=bK 6 [p,aP (k:Int),msg]
  rw[Int.toNat_natCast] at hv
  generalize dE 6 [p,aP (k:Int),msg]=D at *
  have lD:(aB D).length=16:=by rw[aA,hD]
  have tD:=cI hD
  have q2:((0:Int) != (n:Int))=false:=by simp;omega
  by_cases h560:s.length=560
  case neg=>
   rw[if_pos h560] at hv
   have gr:=GM hD h560
   have z16l:bY.length=16:=by decide
   simp only[q1,q2,c2,c3,h0h,hsh,lp,tp,↓gd,↓gr,z16l,hv,undef,bC,aF,BC,↓PC,seval]
  rw[if_neg (by omega)] at hv
  have gr:=Da hD h560
  have hL:(tJ D s).length=16:=bK _ _
  generalize tJ D s=L at *
  have lL:(aB L).length=16:=by rw[aA,hL]
  have tL:=cI hL
  subst hn
  obtain rfl:k=0:=by simpa using kn
  have gv:=Pp (d:=L) hp hL
  have hi0:fW 0 L X 0=dV 1 [L]:=rfl
  rw[hi0] at hv
  have hsh0:IntKind.i64.wrap (1 * 2 ^ (min 0 IntKind.i64.bits))=P2 0:=by decide
  have c30:¬ (0:Int) ≥ P2 0:=by decide
  have n0:((0:Nat):Int)=0:=rfl
  rw[n0] at hv gd
  generalize hB:(nV (dV 1 [L])==p)=B at *
  cases B
  ·simp only[Bool.false_eq_true,if_false] at hv
   simp only[q1,hsh0,c30,lp,tp,↓gd,↓gr,↓gv,lL,tL,n0,hv,bC,aF,BC,↓PC,seval]
  ·simp only[if_true] at hv
   simp only[q1,hsh0,c30,lp,tp,↓gd,↓gr,↓gv,lL,tL,n0,hv,bC,aF,BC,↓PC,seval]
 ·simp only[eL hn,eE hn,eO hn] at g3
  simp only[ls,k2,tb2,↓g3,BC,↓PC,seval]
  refine tK (b:=sig) (o:=(u1+u2)) (e0:=0) (e1:=0) (D:=.slc 3 (u1+u2+u3) 1 (sig.drop (u1+u2+u3)).length none) rfl rfl rfl (by decide) hu12 (Or.inl ⟨rfl,rfl,u3,rfl,hu3,rfl,rfl⟩) ?_
  simp only[BC,↓PC,seval]
  refine rA (e:=0) (o:=(u1+u2+u3)) (l:=(sig.drop (u1+u2+u3)).length) rfl rfl (by decide) ?_
  by_cases c1:u1+u2+u3=sig.length
  case neg=>
   rw[if_pos (Or.inl c1)] at hv
   have q1:((sig.drop (u1+u2+u3)).length:Int) > 0:=by simp;omega
   simp only[q1,hv,undef,BC,↓PC,seval]
  have q1:¬ ((sig.drop (u1+u2+u3)).length:Int) > 0:=by simp;omega
  by_cases c2:i < 0
  case pos=>
   rw[if_pos (Or.inr (Or.inl c2))] at hv
   simp only[q1,c2,hv,undef,BC,↓PC,seval]
  by_cases c3:i ≥ P2 h
  case pos=>
   rw[if_pos (Or.inr (Or.inr (Or.inl c3)))] at hv
   simp only[q1,c2,c3,h0h,hsh,hv,undef,BC,↓PC,seval]
  by_cases c4:n=h
  case neg=>
   rw[if_pos (by omega)] at hv
   have q2:((n:Int) != (h:Int))=true:=by simp;omega
   simp only[q1,q2,c2,c3,h0h,hsh,hv,BC,↓PC,seval]
  subst c4
  rw[if_neg (by omega)] at hv
  obtain⟨k,rfl⟩:∃ k:Nat,i=(k:Int):=⟨i.toNat,by omega⟩
  have kn:k < 2 ^ n:=by have c9:((k:Nat):Int) < ((2 ^ n:Nat):Int):=Int.not_le.1 c3;exact_mod_cast c9
  have gd:=A7 (p:=p) (msg:=msg) (i:=(k:Int)) hp (by omega) hR.1 hR.2
  have hD:=bK 6 [p,aP (k:Int),msg]
  rw[Int.toNat_natCast] at hv
  generalize dE 6 [p,aP (k:Int),msg]=D at *
  have lD:(aB D).length=16:=by rw[aA,hD]
  have tD:=cI hD
  have q2:((n:Int) != (n:Int))=false:=by simp
  by_cases h560:s.length=560
  case neg=>
   rw[if_pos h560] at hv
   have gr:=GM hD h560
   have z16l:bY.length=16:=by decide
   simp only[q1,q2,c2,c3,h0h,hsh,lp,tp,↓gd,↓gr,z16l,hv,undef,bC,aF,BC,↓PC,seval]
  rw[if_neg (by omega)] at hv
  have gr:=Da hD h560
  have hL:(tJ D s).length=16:=bK _ _
  generalize tJ D s=L at *
  have lL:(aB L).length=16:=by rw[aA,hL]
  have tL:=cI hL
  have gv:=LH (d:=L) hp hh hn kn hL hxl
  have lX:(aB X).length=16 * n:=by rw[aA,hxl]
  have tX:List.take (16 * n) (aB X)=aB X:=List.take_of_length_le (by omega)
  have tX2:List.take (n * 16) (aB X)=aB X:=List.take_of_length_le (by omega)
  have b16:n * 16≤16 * n:=by omega
  generalize hB:(nV (fW k L X n)==p)=B at *
  cases B
  ·simp only[Bool.false_eq_true,if_false] at hv
   simp only[q1,q2,hsh,c2,c3,h0h,lp,tp,↓gd,↓gr,↓gv,lL,tL,lX,tX2,b16,hv,bC,aF,BC,↓PC,seval]
  ·simp only[if_true] at hv
   simp only[q1,q2,hsh,c2,c3,h0h,lp,tp,↓gd,↓gr,↓gv,lL,tL,lX,tX2,b16,hv,bC,aF,BC,↓PC,seval]
def Bl:List SV→Option SV
 | [.str seed,.int .i64 i]=>if seed.length≤64∧-9223372036854775808≤i∧i≤9223372036854775807 then some (.str (gM seed i)) else none
 | _=>none
theorem Im {seed:List UInt8} {k:Nat} (h:seed.length≤64) (hk:k≤64):Bl [.str seed,.int .i64 (k:Int)]=some (.str (gM seed (k:Int))):=if_pos ⟨h,by omega,by omega⟩
def LL:List SV→Option SV
 | [.str seed]=>if seed.length≤64 then some (.agg (aB (yW seed))) else none
 | _=>none
theorem Pt {seed:List UInt8} (h:seed.length≤64):LL [.str seed]=some (.agg (aB (yW seed))):=if_pos h
def Pu:Tab:=⟨[(93,Bl),(120,LL)],[]⟩
theorem LM:TabX Tryz.prog aO Pu:=by
 refine⟨fun x h args r hr=>?_,fun x h=>by simp[Pu] at h⟩
 simp only[Pu,List.mem_cons,List.not_mem_nil,or_false] at h
 rcases h with rfl|rfl
 ·simp only at hr
  unfold Bl at hr
  split at hr
  ·split at hr
   ·rename_i hc
    cases hr
    exact⟨Xe _ _ hc.1 hc.2,fun η=>rfl,fun η=>rfl⟩
   ·cases hr
  ·cases hr
 ·simp only at hr
  unfold LL at hr
  split at hr
  ·split at hr
   ·rename_i hc
    cases hr
    exact⟨AAe _ hc,fun η=>rfl,fun η=>by simp only[SV.renL,SV.ren,aC]⟩
   ·cases hr
  ·cases hr
def Pv (seed:List UInt8) (k:Nat):List UInt8:=yW (gM seed (k:Int))
theorem CU (seed:List UInt8) (k:Nat):(Pv seed k).length=16:=IX _
def eS (seed:List UInt8) (h:Nat):List UInt8:=jZ (Pv seed) (2 ^ h)
theorem xL (seed:List UInt8) (h:Nat):(eS seed h).length=16 * 2 ^ h:=iQ (fun k _=>CU seed k)
theorem YJ (seed:List UInt8) (h:Nat) (hh:h≤6) (S L:Nat→List UInt8) (gS:∀ k:Nat,k≤64→Bl [.str seed,.int .i64 (k:Int)]=some (.str (S k)))
  (gP:∀ k:Nat,LL [.str (S k)]=some (.agg (aB (L k)))) (hL:∀ k,(L k).length=16) :
  Fun Tryz.prog aO 84 [.str seed,.int .i64 (h:Int)] [] 0 (.slc 0 0 16 (2 ^ h) none) [(0,⟨.own 24,aB (jZ L (2 ^ h))⟩)] 1:=by
 refine aR none (gT Pu) (cN LM) Zd (Nat.le_of_ble_eq_true rfl) (by decide) ?_
 conv in aJ _ _=>(reduce;simp only[aH,UInt8.reduceOfNat,Int.reduceOfNat,Int.reduceNegSucc])
 rw[aQ]
 simp (maxSteps:=1000000) only [Pu,reduceCtorEq,Nat.reduceEqDiff,eq_self,Nat.zero_add,gV,cG,cB,aW,b6,cC,cK,↓reduceIte,↓fZ,Opd.ev,put,bQ,fF,aU]
 rw[aL]
 have hsh:=G0 hh
 have p1:=(y6 hh).1
 have p0:=(y6 hh).2
 have hP:P2 h=((2 ^ h:Nat):Int):=rfl
 rw[hP] at hsh p1 p0
 generalize 2 ^ h=N at *
 have h0:(0:Int)≤(h:Int):=by omega
 refine bF (cN LM) (σ:=Nat) (fun k=>[(6,.int .i64 (k:Int)),(5,AN 0 16 k),(1,.int .i64 (h:Int)),(0,.str seed)])
  (fun k=>v7 0 24 (aB (jZ L k)) [] k) (fun k=>s9 0 k) (fun k=>k≤N) (fun k=>N - k) 0 ?_ (Nat.zero_le _) ?_
 ·exact⟨[],by simp[dS,aK,aM,aG,b7,List.length_nil,List.take_nil,and_self,m5,m6],by simp[dI,eX,SV.ren,Nat.reduceEqDiff,↓reduceIte,and_self,reduceCtorEq,Nat.succ_ne_self,mZ]⟩
 ·intro k hk
  have hlk:=iQ (f:=L) (n:=k) (fun j _=>hL j)
  by_cases hkN:k < N
  ·have c1:(k:Int) < (N:Int):=by omega
   have v4:IntKind.i64.wrap ((k:Int)+1)=((k+1:Nat):Int):=by rw[aD (by omega) (by omega)];omega
   have gs:=gS k (by omega)
   have gp:=gP k
   have hpl:=hL k
   have lQ:(aB (L k)).length=16:=by rw[aA,hpl]
   have tQ:=cI hpl
   have hst:aB (jZ L k)++aB (L k)=aB (jZ L (k+1)):=by rw[cE,m7]
   have fe:=aX (L k)
   cases k with
   | zero=>
    have c1:(0:Int) < (N:Int):=c1
    have gs:Bl [.str seed,.int .i64 0]=some (.str (S 0)):=gs
    have hst:aB (L 0)=aB (jZ L (0+1)):=hst
    simp (maxSteps:=1000000) only [↓gs,↓gp,hsh,h0,c1,fe,lQ,tQ,SV.flatL,SV.flat,Bool.and_self,↓AJ,g9,iA,reduceCtorEq,Nat.reduceEqDiff,Nat.reduceAdd,Nat.reduceMul,Int.reduceLE,Int.reduceAdd,Int.reduceNeg,wrap64,eq_self,decide_true,Int.cast_ofNat_Int, true_and,List.length_cons,List.length_nil,List.append_nil,List.nil_append,List.take_zero,List.drop_succ_cons,List.drop_zero,List.drop_nil,List.map_cons,List.map_nil,Nat.zero_add,dN,cG,↓mU,cB,aW,eK,b6,cC,dB,cK,mX,↓reduceIte,↓g8,↓o3,↓fZ,↓gL,↓AI,↓eJ,↓iO,↓gK,↓cL,↓eG,Opd.ev,Sx.get,put,bQ,fF,aU,rd,aF,SV.cells?,Nat.sub_zero,Nat.le_refl,mZ,m5,m6,Int.toNat_natCast,Int.cast_ofNat_Int]
    rw[hst]
    exact⟨by omega,by omega,0+1,⟨[(1,0)],by simp only[dS,aK,aM,aG,bB,b7,rd,Option.getD_some,List.getElem?_cons_zero,List.length_cons,List.length_nil,Nat.zero_add,Nat.add_zero,Nat.reduceSub,Nat.reduceLT,Nat.reduceLeDiff,↓reduceIte,Kind.isOwn,List.take_zero,and_self,true_and,exists_eq_left',Option.some.injEq,ne_eq,implies_true,List.not_mem_nil,false_imp_iff,Bool.true_or,forall_const,aC,lH,kI],by simp only[dI,eX,bB,SV.ren,Option.getD_some,List.getElem?_cons_zero,List.length_cons,List.length_nil,Nat.zero_add,Nat.add_zero,Nat.reduceSub,Nat.reduceEqDiff,↓reduceIte,and_self,and_true,Option.some.injEq,reduceCtorEq,Nat.succ_ne_self,lG];trivial⟩,by omega,by omega⟩
   | succ k=>
    simp (maxSteps:=1000000) only [↓gs,↓gp,hsh,h0,c1,v4,fe,lQ,tQ,SV.flatL,SV.flat,Bool.and_self,↓AJ,g9,iA,reduceCtorEq,Nat.reduceEqDiff,Nat.reduceAdd,Nat.reduceMul,eq_self,decide_true, true_and,List.length_cons,List.length_nil,List.append_nil,List.nil_append,List.take_zero,List.drop_succ_cons,List.drop_zero,List.drop_nil,List.map_cons,List.map_nil,Nat.zero_add,dN,cG,↓mU,cB,aW,eK,b6,cC,dB,cK,mX,↓reduceIte,↓g8,↓o3,↓fZ,↓gL,↓AI,↓eJ,↓iO,↓gK,↓cL,↓eG,Opd.ev,Sx.get,put,bQ,fF,aU,rd,rm,aF,SV.cells?,Nat.le_refl,lG,lH,kI,aA,Int.toNat_natCast]
    have e0:List.take ((k+1) * 16) (aB (jZ L (k+1)))=aB (jZ L (k+1)):=List.take_of_length_le (by rw[aA,hlk];omega)
    rw[e0,hst]
    exact⟨by omega,by omega,by omega,k+1+1,⟨[(2,0)],by simp only[dS,aK,aM,aG,bB,b7,rd,Option.getD_some,List.getElem?_cons_zero,List.length_cons,List.length_nil,Nat.zero_add,Nat.add_zero,Nat.reduceSub,Nat.reduceLT,Nat.reduceLeDiff,↓reduceIte,Kind.isOwn,List.take_zero,and_self,true_and,exists_eq_left',Option.some.injEq,ne_eq,implies_true,List.not_mem_nil,false_imp_iff,Bool.true_or,forall_const,aC,lH,kI],by simp only[dI,eX,bB,SV.ren,Option.getD_some,List.getElem?_cons_zero,List.length_cons,List.length_nil,Nat.zero_add,Nat.add_zero,Nat.reduceSub,Nat.reduceEqDiff,↓reduceIte,and_self,reduceCtorEq,Nat.succ_ne_self,lG]⟩,by omega,by omega⟩
  ·obtain rfl:k=N:=by omega
   have c1:¬ (k:Int) < (k:Int):=by omega
   simp (maxSteps:=1000000) only [hsh,h0,c1,nJ,reduceCtorEq,Nat.reduceEqDiff,eq_self,decide_false, true_and,Nat.add_zero,dN,cG,↓nU,cB,aW,b6,cC,dB,i5,iW,oC,oD,vH,↓reduceIte,↓fZ,↓gL,↓eJ,↓cL,↓dY,Opd.ev,Sx.get,put,bQ,fF,aU,dX,bB,SV.ren,Int.toNat_natCast]
   obtain⟨j,rfl⟩:∃ j,k=j+1:=⟨k - 1,by omega⟩
   exact⟨[(0,0)],by simp[dS,aK,aM,aG,bB,b7,rd,Option.getD_some,List.length_cons,List.length_nil,Nat.zero_add,Nat.add_zero,↓reduceIte,Kind.isOwn,List.take_zero,and_self,true_and,exists_eq_left',Option.some.injEq,ne_eq,implies_true,List.not_mem_nil,Bool.true_or,forall_const,aC,lH,kI],by simp[Option.getD_some,List.length_cons,List.length_nil,Nat.zero_add,Nat.add_zero,lG,kI]⟩
theorem AAr (seed:List UInt8) (h:Nat) (hh:h≤6) (hs:seed.length≤64) :
  Fun Tryz.prog aO 84 [.str seed,.int .i64 (h:Int)] [] 0 (.slc 0 0 16 (2 ^ h) none) [(0,⟨.own 24,aB (eS seed h)⟩)] 1:=
 YJ seed h hh (fun k=>gM seed (k:Int)) (Pv seed) (fun k hk=>Im hs hk) (fun k=>Pt (by rw[yK];decide)) (CU seed)
def kY:Nat→List UInt8→Nat→List UInt8
 | 0,_,_=>[]
 | h+1,X,i=>if i < 2 ^ h then kY h (X.take (16 * 2 ^ h)) i++dM h (X.drop (16 * 2 ^ h)) else kY h (X.drop (16 * 2 ^ h)) (i - 2 ^ h)++dM h (X.take (16 * 2 ^ h))
theorem mF:∀ (h:Nat) (X:List UInt8) (i:Nat),(kY h X i).length=16 * h
 | 0,_,_=>rfl
 | h+1,X,i=>by
  unfold kY
  split <;> (rw[List.length_append,mF h,dJ];omega)
def Jp (h:Nat):SV:=.tup [AN 1 16 h,.int .i64 0]
def Me (h:Nat):GS
 | [.slc 0 0 16 n none,.int .i64 i],[(0,⟨.view,cells⟩)]=>match rQ cells with
  | some X=>if n=2 ^ h∧X.length=16 * 2 ^ h∧0≤i∧i.toNat < 2 ^ h then some (Jp h,v7 1 24 (aB (kY h X i.toNat)) [] h,s9 1 h) else none
  | none=>none
 | _,_=>none
theorem G4 {h n i:Nat} {X:List UInt8} (hn:n=2 ^ h) (hX:X.length=16 * 2 ^ h) (hi:i < 2 ^ h) :
  Me h [.slc 0 0 16 n none,.int .i64 (i:Int)] [(0,⟨.view,aB X⟩)]=some (Jp h,v7 1 24 (aB (kY h X i)) [] h,s9 1 h):=by
 unfold Me
 simp only[aT,Int.toNat_natCast]
 rw[if_pos ⟨hn,hX,by omega,hi⟩]
def Vq (h:Nat):Prop:=∀ (X:List UInt8) (i:Nat),X.length=16 * 2 ^ h→i < 2 ^ h →
 Fun Tryz.prog aO 91 [.slc 0 0 16 (2 ^ h) none,.int .i64 (i:Int)] [(0,⟨.view,aB X⟩)] 1 (Jp h) (v7 1 24 (aB (kY h X i)) [] h) (s9 1 h)
theorem LN {h:Nat} (H:Vq h):dQ Tryz.prog aO 91 (Me h):=by
 intro a0 m0 r m1 n1 hh
 unfold Me at hh
 split at hh
 ·split at hh
  ·rename_i X hX
   split at hh
   ·rename_i hc
    cases hh
    obtain⟨rfl,h2,h3,h4⟩:=hc
    obtain⟨k,rfl⟩:=Int.eq_ofNat_of_zero_le h3
    rw[b8 hX]
    rw[Int.toNat_natCast] at h4 ⊢
    refine⟨H X k h2 h4,?_⟩
    rcases Nat.eq_zero_or_pos h with h0|h0
    ·rw[jU h0];simp[dA]
    ·rw[eE h0];simp[dA]
   ·cases hh
  ·cases hh
 ·cases hh
theorem AAs:Vq 0:=by
 intro X i hX hi
 obtain rfl:i=0:=by simpa using hi
 have hX:X.length=16:=hX
 show Fun Tryz.prog aO 91 [.slc 0 0 16 1 none,.int .i64 0] [(0,⟨.view,aB X⟩)] 1 (.tup [.val (.slice none 0 0),.int .i64 0]) [] 1
 refine aR none cF bI WY (Nat.le_of_ble_eq_true rfl) (by decide) ?_
 conv in aJ _ _=>(reduce;simp only[aH,UInt8.reduceOfNat,Int.reduceOfNat,Int.reduceNegSucc])
 rw[aQ]
 have hl:(aB X).length=16:=by rw[aA,hX]
 simp (maxSteps:=1000000) only [Int.reduceGE,reduceCtorEq,Nat.reduceEqDiff,Int.reduceLT,↓reduceIte,BC,↓PC]
 exact⟨[(0,0)],by simp[BC]⟩
def Dr (h:Nat):List (FuncId × GS):=[(91,Me h),(33,Dg h)]
theorem Pw {h:Nat} (H:Vq h) (R:Jo h):∀ x∈Dr h,dQ Tryz.prog aO x.1 x.2:=by
 intro x hx
 simp only[Dr,List.mem_cons,List.not_mem_nil,or_false] at hx
 rcases hx with rfl|rfl
 ·exact LN H
 ·exact Dh R
theorem AAt {h:Nat} (hh:h < 6) (H:Vq h) (R:Jo h):Vq (h+1):=by
 intro X i hX hi
 have e2:2 ^ (h+1)=2 ^ h+2 ^ h:=by rw[Nat.pow_succ];omega
 have gs:=GR h hh
 have n6:2 ^ h≤32:=Nat.le_trans (Nat.pow_le_pow_right (by decide) (show h≤5 by omega)) (by decide)
 have n1:1≤2 ^ h:=Nat.one_le_two_pow
 rw[e2] at hX hi ⊢
 unfold P2 at gs
 rw[e2] at gs
 unfold Jp
 rw[eL (Nat.succ_pos h),eE (Nat.succ_pos h),eO (Nat.succ_pos h)]
 refine aR none (dR (Dr h) (gT Bz)) (bA (Pw H R) (cN GX)) WY (Nat.le_of_ble_eq_true rfl) (by decide) ?_
 conv in aJ _ _=>(reduce;simp only[aH,UInt8.reduceOfNat,Int.reduceOfNat,Int.reduceNegSucc])
 rw[aQ]
 unfold kY
 have x1:(X.take (16 * 2 ^ h)).length=16 * 2 ^ h:=by rw[List.length_take];omega
 have x2:(X.drop (16 * 2 ^ h)).length=16 * 2 ^ h:=by rw[List.length_drop];omega
 have g1:=xJ (h:=h) rfl x1
 have g2:=xJ (h:=h) rfl x2
 have t1:List.take (2 ^ h * 16) (aB X)=aB (X.take (16 * 2 ^ h)):=by rw[Nat.mul_comm];simp[aB,List.map_take]
 have t2:List.take (2 ^ h * 16) (List.drop (2 ^ h * 16) (aB X))=aB (X.drop (16 * 2 ^ h)):=by
  rw[Nat.mul_comm,show List.drop (16 * 2 ^ h) (aB X)=aB (X.drop (16 * 2 ^ h)) by simp[aB,List.map_drop]]
  exact List.take_of_length_le (by rw[aA,x2];exact Nat.le_refl _)
 have lX:(aB X).length=16 * (2 ^ h+2 ^ h):=by rw[aA,hX]
 have r1:=dJ h (X.take (16 * 2 ^ h))
 have r2:=dJ h (X.drop (16 * 2 ^ h))
 have gp1:i < 2 ^ h→_:=fun hi=>G4 (h:=h) (i:=i) rfl x1 hi
 have gp2:¬ i < 2 ^ h→_:=fun hn=>G4 (h:=h) (i:=i - 2 ^ h) rfl x2 (by omega)
 have lp1:=mF h (X.take (16 * 2 ^ h)) i
 have lp2:=mF h (X.drop (16 * 2 ^ h)) (i - 2 ^ h)
 generalize dM h (X.take (16 * 2 ^ h))=A at *
 generalize dM h (X.drop (16 * 2 ^ h))=B at *
 generalize kY h (X.take (16 * 2 ^ h)) i=Y1 at *
 generalize kY h (X.drop (16 * 2 ^ h)) (i - 2 ^ h)=Y2 at *
 generalize X.take (16 * 2 ^ h)=X1 at *
 generalize X.drop (16 * 2 ^ h)=X2 at *
 generalize hn:2 ^ h=k at *
 have c1:¬ (i:Int) < 0:=by omega
 have c2:(((k+k:Nat):Int)==1)=false:=by simp;omega
 have c3:(0:Int)≤(k:Int):=by omega
 have c4:(k:Int)≤((k+k:Nat):Int):=by omega
 have c5:k * 16≤16 * (k+k):=by omega
 have c6:k+k - k=k:=by omega
 have c7:k * 16+k * 16≤16 * (k+k):=by omega
 have c8:(k+k) * 16≤16 * (k+k):=by omega
 have c9:¬ (i:Int) ≥ ((k+k:Nat):Int):=by omega
 have fA:=aX A
 have fB:=aX B
 have lA:(aB A).length=16:=by rw[aA,r1]
 have tA:=cI r1
 have lB:(aB B).length=16:=by rw[aA,r2]
 have tB:=cI r2
 by_cases hik:i < k
 ·have d1:(i:Int) < (k:Int):=by omega
  have gp:=gp1 hik
  rw[if_pos hik]
  unfold Jp at gp
  have ap:aB Y1++aB B=aB (Y1++B):=cE _ _
  rcases Nat.eq_zero_or_pos h with h0|h0
  ·subst h0
   obtain rfl:Y1=[]:=List.length_eq_zero_iff.1 (by omega)
   simp only[mZ,m5,m6] at gp
   simp (maxSteps:=1000000) only [Dr,Bz,↓gs,↓g2,↓gp,Option.map_none,c1,c2,c3,c4,c5,c6,c7,c8,c9,d1,t1,t2,lX,lB,tB,reduceCtorEq,Nat.reduceEqDiff,Nat.reduceAdd,Nat.reduceSub,Nat.reduceMul,Nat.reduceLT,Int.reduceToNat,Int.reduceLE,↓reduceIte,aF,BC,↓PC]
   exact⟨Int.le_refl _,by decide,by decide,[(0,0),(2,0)],by simp[Nat.reduceAdd,Nat.reduceLeDiff,↓reduceIte,BC],by simp⟩
  ·rw[eL h0,eE h0,eO h0] at gp
   have e0:List.take (h * 16) (aB Y1)=aB Y1:=List.take_of_length_le (by rw[aA];omega)
   have n0:h * 16≤Y1.length:=by omega
   simp (maxSteps:=1000000) only [Dr,Bz,↓gs,↓g2,↓gp,Option.map_none,c1,c2,c3,c4,c5,c6,c7,c8,c9,d1,t1,t2,lX,lB,tB,e0,ap,n0,reduceCtorEq,Nat.reduceEqDiff,Nat.reduceAdd,Nat.reduceSub,Nat.reduceMul,Nat.reduceLT,Int.reduceToNat,Int.reduceLE,↓reduceIte,aF,BC,↓PC]
   exact⟨Int.le_refl _,by omega,by decide,[(0,0),(3,0)],by simp[Nat.reduceAdd,Nat.reduceLeDiff,↓reduceIte,BC],by simp⟩
 ·have d1:¬ (i:Int) < (k:Int):=by omega
  have gp:=gp2 hik
  rw[if_neg hik]
  have w1:IntKind.i64.wrap ((i:Int) - (k:Int))=((i - k:Nat):Int):=by rw[aD (by omega) (by omega)];omega
  unfold Jp at gp
  have ap:aB Y2++aB A=aB (Y2++A):=cE _ _
  rcases Nat.eq_zero_or_pos h with h0|h0
  ·subst h0
   obtain rfl:Y2=[]:=List.length_eq_zero_iff.1 (by omega)
   simp only[mZ,m5,m6] at gp
   simp (maxSteps:=1000000) only [Dr,Bz,↓gs,↓g1,↓gp,Option.map_none,c1,c2,c3,c4,c5,c6,c7,c8,c9,d1,w1,t1,t2,lX,lA,tA,reduceCtorEq,Nat.reduceEqDiff,Nat.reduceAdd,Nat.reduceSub,Nat.reduceMul,Nat.reduceLT,Int.reduceToNat,Int.reduceLE,↓reduceIte,aF,BC,↓PC]
   exact⟨Int.le_refl _,by decide,by decide,[(0,0),(2,0)],by simp[Nat.reduceAdd,Nat.reduceLeDiff,↓reduceIte,BC],by simp⟩
  ·rw[eL h0,eE h0,eO h0] at gp
   have e0:List.take (h * 16) (aB Y2)=aB Y2:=List.take_of_length_le (by rw[aA];omega)
   have n0:h * 16≤Y2.length:=by omega
   simp (maxSteps:=1000000) only [Dr,Bz,↓gs,↓g1,↓gp,Option.map_none,c1,c2,c3,c4,c5,c6,c7,c8,c9,d1,w1,t1,t2,lX,lA,tA,e0,ap,n0,reduceCtorEq,Nat.reduceEqDiff,Nat.reduceAdd,Nat.reduceSub,Nat.reduceMul,Nat.reduceLT,Int.reduceToNat,Int.reduceLE,↓reduceIte,aF,BC,↓PC]
   exact⟨Int.le_refl _,by omega,by decide,[(0,0),(3,0)],by simp[Nat.reduceAdd,Nat.reduceLeDiff,↓reduceIte,BC],by simp⟩
theorem prv:∀ h,h≤6→Vq h
 | 0,_=>AAs
 | h+1,hh=>AAt (by omega) (prv h (by omega)) (mP h (by omega))
def Iu:List (FuncId × GS):=[(49,uL)]
theorem QM:∀ x∈Iu,dQ Tryz.prog aO x.1 x.2:=by
 intro x hx
 simp only[Iu,List.mem_singleton] at hx
 subst hx
 exact uM
def YU:bG:=dR Iu cF
theorem Dv:∀ f a m n K,YU f a m n K→aY Tryz.prog aO f a m n K:=bA QM bI
theorem YV:Fun Tryz.prog aO 95 [.val (.slice none 0 0)] [] 0 (.slc 0 0 1 (aP 0).length none) [(0,⟨.own 5,aB (aP 0)⟩)] 1:=by
 refine aR none YU Dv WZ (Nat.le_of_ble_eq_true rfl) (by decide) ?_
 conv in aJ _ _=>(reduce;simp only[aH,UInt8.reduceOfNat,Int.reduceOfNat,Int.reduceNegSucc])
 rw[aQ]
 have gi:=mB (n:=0) ⟨by omega,by omega⟩
 simp (maxSteps:=1000000) only [YU,Iu,↓gi,reduceCtorEq,Nat.reduceEqDiff,↓reduceIte,BC,↓PC]
 rw[aL]
 refine a8 Dv (aN _ _) 1 ?_
 simp (maxSteps:=1000000) only [reduceCtorEq,Nat.reduceEqDiff,Int.reduceLT,↓reduceIte,BC,↓PC]
 exact⟨[(0,0)],by simp[↓reduceIte,BC],by simp⟩
theorem AA2 (n:Nat) (X:List UInt8) (hX:X.length=16 * n) (hn:n≤64) :
  Fun Tryz.prog aO 95 [.slc 0 0 16 n none] [(0,⟨.view,aB X⟩)] 1 (.slc 1 0 1 (aP (n:Int)++X).length none) [(1,⟨.own 5,aB (aP (n:Int)++X)⟩)] 2:=by
 refine aR none YU Dv WZ (Nat.le_of_ble_eq_true rfl) (by decide) ?_
 conv in aJ _ _=>(reduce;simp only[aH,UInt8.reduceOfNat,Int.reduceOfNat,Int.reduceNegSucc])
 rw[aQ]
 have gi:=mB (n:=(n:Int)) ⟨by omega,by omega⟩
 have he:=aS (n:Int)
 generalize aP (n:Int)=E at *
 have lX:(aB X).length=16 * n:=by rw[aA,hX]
 have z0:n * 16≤16 * n:=by omega
 simp (maxSteps:=1000000) only [YU,Iu,↓gi,reduceCtorEq,Nat.reduceEqDiff,Nat.reduceAdd,↓reduceIte,BC,↓PC]
 rw[aL]
 have rE:∀ η b,SV.renL η (aB b)=aB b:=fun η b=>aC η b
 refine bF Dv (σ:=Nat) (fun k=>[(4,.int .i64 (k:Int)),(3,.slc 1 0 1 (E.length+16 * k) none),(0,.slc 0 0 16 n none)])
  (fun k=>[(1,⟨.own 5,aB (E++X.take (16 * k))⟩),(0,⟨.view,aB X⟩)]) (fun _=>2) (fun k=>k≤n) (fun k=>n - k) 0 ?_ (Nat.zero_le _) ?_
 ·exact⟨[(0,0),(1,0)],by simp[Nat.reduceAdd,Nat.reduceLeDiff,↓reduceIte,BC],by simp[Nat.reduceAdd,Nat.reduceLeDiff,↓reduceIte,reduceCtorEq,BC]⟩
 ·intro k hk
  have lk:(E++X.take (16 * k)).length=E.length+16 * k:=by rw[List.length_append,List.length_take];omega
  by_cases hkn:k < n
  ·have c1:(k:Int) < (n:Int):=by omega
   have c2:(0:Int)≤(k:Int):=by omega
   have v4:IntKind.i64.wrap ((k:Int)+1)=((k+1:Nat):Int):=by rw[aD (by omega) (by omega)];omega
   simp (maxSteps:=1000000) only [c1,reduceCtorEq,Nat.reduceEqDiff,↓reduceIte,BC,↓PC]
   rw[aL]
   refine bF Dv (σ:=Nat) (fun j=>[(5,.int .i64 (j:Int)),(4,.int .i64 (k:Int)),(3,.slc 1 0 1 (E.length+(16 * k+j)) none),(0,.slc 0 0 16 n none)])
    (fun j=>[(1,⟨.own 5,aB (E++X.take (16 * k+j))⟩),(0,⟨.view,aB X⟩)]) (fun _=>2) (fun j=>j≤16) (fun j=>16 - j) 0 ?_ (Nat.zero_le _) ?_
   ·exact⟨[(0,0),(1,0)],by simp[Nat.reduceAdd,Nat.reduceLeDiff,↓reduceIte,BC],by simp[Nat.reduceAdd,Nat.reduceEqDiff,Nat.reduceLeDiff,↓reduceIte,reduceCtorEq,BC]⟩
   ·intro j hj
    have lj:(E++X.take (16 * k+j)).length=E.length+(16 * k+j):=by rw[List.length_append,List.length_take];omega
    by_cases uT:j < 16
    ·have d1:(j:Int) < 16:=by omega
     have d2:(0:Int)≤(j:Int):=by omega
     have v5:IntKind.i64.wrap ((j:Int)+1)=((j+1:Nat):Int):=by rw[aD (by omega) (by omega)];omega
     obtain⟨x,hx⟩:∃ x,X[k * 16+j]?=some x:=⟨_,List.getElem?_eq_getElem (by omega)⟩
     have gx:=fL hx
     have ap:aB (E++X.take (16 * k+j))++[SV.byte x]=aB (E++X.take (16 * k+(j+1))):=by
      rw[iT,List.append_assoc,← Nat.add_assoc,List.take_add_one,show 16 * k+j=k * 16+j by omega,hx];rfl
     have t0:List.take (E.length+(16 * k+j)) (aB (E++X.take (16 * k+j)))=aB (E++X.take (16 * k+j)):=List.take_of_length_le (by rw[aA,lj];exact Nat.le_refl _)
     have z1:k * 16+j < 16 * n:=by omega
     simp (maxSteps:=1000000) only [lX,c1,c2,d1,d2,v5,gx,lj,t0,reduceCtorEq,Nat.reduceEqDiff,Nat.reduceAdd,↓reduceIte,aF,BC,↓PC]
     rw[qS,ap]
     exact⟨by omega,by omega,by decide,j+1,⟨[(0,0),(3,0)],by simp only[Nat.reduceAdd,Nat.reduceSub,Nat.reduceLT,Nat.reduceLeDiff,↓reduceIte,reduceCtorEq,BC],by simp[Nat.add_assoc,Nat.reduceAdd,Nat.reduceEqDiff,Nat.reduceLeDiff,↓reduceIte,reduceCtorEq,BC]⟩,by omega,by omega⟩
    ·obtain rfl:j=16:=by omega
     simp (maxSteps:=1000000) only [v4,reduceCtorEq,Nat.reduceEqDiff,Int.reduceLT,↓reduceIte,BC,↓PC]
     rw[show 16 * k+16=16 * (k+1) by omega]
     exact⟨k+1,⟨[(0,0),(1,0)],by simp only[Nat.reduceAdd,Nat.reduceSub,Nat.reduceLT,Nat.reduceLeDiff,↓reduceIte,BC],by simp[Nat.reduceAdd,Nat.reduceEqDiff,Nat.reduceLeDiff,↓reduceIte,reduceCtorEq,BC]⟩,by omega,by omega⟩
  ·obtain rfl:k=n:=by omega
   have c1:¬ (k:Int) < (k:Int):=by omega
   have e1:X.take (16 * k)=X:=List.take_of_length_le (by omega)
   simp (maxSteps:=1000000) only [c1,e1,reduceCtorEq,Nat.reduceEqDiff,↓reduceIte,BC,↓PC]
   exact⟨[(0,0),(1,0)],by simp[Nat.reduceAdd,Nat.reduceLeDiff,↓reduceIte,BC],by simp[hX]⟩
def FV:GS
 | [.slc 0 0 16 n none],[(0,⟨.view,cells⟩)]=>match rQ cells with
  | some X=>if X.length=16 * n∧n≤64 then some (.slc 1 0 1 (aP (n:Int)++X).length none,[(1,⟨.own 5,aB (aP (n:Int)++X)⟩)],2) else none
  | none=>none
 | [.val (.slice none 0 0)],[]=>some (.slc 0 0 1 (aP 0).length none,[(0,⟨.own 5,aB (aP 0)⟩)],1)
 | _,_=>none
theorem QN {n:Nat} {X:List UInt8} (hX:X.length=16 * n) (hn:n≤64) :
  FV [.slc 0 0 16 n none] [(0,⟨.view,aB X⟩)]=some (.slc 1 0 1 (aP (n:Int)++X).length none,[(1,⟨.own 5,aB (aP (n:Int)++X)⟩)],2):=by
 unfold FV
 simp only[aT]
 rw[if_pos ⟨hX,hn⟩]
theorem Sc:FV [.val (.slice none 0 0)] []=some (.slc 0 0 1 (aP 0).length none,[(0,⟨.own 5,aB (aP 0)⟩)],1):=rfl
theorem QO:dQ Tryz.prog aO 95 FV:=by
 intro a0 m0 r m1 n1 h
 unfold FV at h
 split at h
 ·split at h
  ·rename_i X hX
   split at h
   ·rename_i hc
    cases h
    rw[b8 hX]
    exact⟨AA2 _ X hc.1 hc.2,by simp[dA]⟩
   ·cases h
  ·cases h
 ·cases h
  exact⟨YV,by simp[dA]⟩
 ·cases h
def Sd (L:List UInt8→Nat→List UInt8):GS
 | [.str seed,.int .i64 (.ofNat h)],[]=>if seed.length≤64∧h≤6 then some (.slc 0 0 16 (2 ^ h) none,[(0,⟨.own 24,aB (L seed h)⟩)],1) else none
 | _,_=>none
theorem L5 {L:List UInt8→Nat→List UInt8} {seed:List UInt8} {h:Nat} (hs:seed.length≤64) (hh:h≤6):Sd L [.str seed,.int .i64 (h:Int)] []=some (.slc 0 0 16 (2 ^ h) none,[(0,⟨.own 24,aB (L seed h)⟩)],1):=if_pos ⟨hs,hh⟩
def Iv (L:List UInt8→Nat→List UInt8):Prop:=∀ seed h,seed.length≤64→h≤6→(L seed h).length=16 * 2 ^ h ∧
 Fun Tryz.prog aO 84 [.str seed,.int .i64 (h:Int)] [] 0 (.slc 0 0 16 (2 ^ h) none) [(0,⟨.own 24,aB (L seed h)⟩)] 1
theorem Ga:Iv eS:=fun seed h hs hh=>⟨xL seed h,AAr seed h hh hs⟩
theorem Se {L:List UInt8→Nat→List UInt8} (H:Iv L):dQ Tryz.prog aO 84 (Sd L):=by
 intro a0 m0 r m1 n1 h
 unfold Sd at h
 split at h
 ·split at h
  ·rename_i hc
   cases h
   exact⟨(H _ _ hc.1 hc.2).2,by simp[dA]⟩
  ·cases h
 ·cases h
def Dw (L:List UInt8→Nat→List UInt8) (h:Nat):List (FuncId × GS):=[(84,Sd L),(33,Dg h),(91,Me h),(49,uL),(50,vL),(95,FV)]
theorem Iw {L:List UInt8→Nat→List UInt8} (H:Iv L) {h:Nat} (hh:h≤6):∀ x∈Dw L h,dQ Tryz.prog aO x.1 x.2:=by
 intro x hx
 simp only[Dw,List.mem_cons,List.not_mem_nil,or_false] at hx
 rcases hx with rfl|rfl|rfl|rfl|rfl|rfl
 ·exact Se H
 ·exact Dh (mP h hh)
 ·exact LN (prv h hh)
 ·exact uM
 ·exact DT
 ·exact QO
theorem QP (L:List UInt8→Nat→List UInt8) (H:Iv L) (seed:List UInt8) (h:Nat) (hs:seed.length=32) (hh:h≤6) :
  Fun Tryz.prog aO 39 [.str seed,.int .i64 (h:Int)] [] 0 (.tup [.agg (aB (dM h (L seed h))),.int .i64 0]) [] 0:=by
 refine bT none (dR (Dw L h) cF) (bA (Iw H hh) bI) WX (Nat.le_of_ble_eq_true rfl) (fun η=>by simp only[SV.ren,SV.renL,aC]) ?_
 conv in aJ _ _=>(reduce;simp only[aH,seval])
 rw[aQ]
 have lL:=(H seed h (by omega) hh).1
 have gl:=L5 (L:=L) (seed:=seed) (h:=h) (by omega) hh
 generalize L seed h=X at *
 have gr:=xJ (h:=h) rfl lL
 have rl:=dJ h X
 generalize dM h X=R at *
 have lR:(aB R).length=16:=by rw[aA,rl]
 have tR:=cI rl
 have lX:(aB X).length=16 * 2 ^ h:=by rw[aA,lL]
 have tX:List.take (2 ^ h * 16) (aB X)=aB X:=List.take_of_length_le (by omega)
 have c0:((seed.length:Int) != 32)=false:=by rw[hs];rfl
 have c1:¬ (h:Int) < 0:=by omega
 have c2:¬ (h:Int) > 6:=by omega
 have c3:2 ^ h * 16≤16 * 2 ^ h:=by omega
 generalize 2 ^ h=N at *
 simp only[Dw,↓gl,↓gr,c0,c1,c2,c3,lR,tR,lX,tX,bC,aF,BC,↓PC,seval]
theorem YW (seed:List UInt8) (ht:Int) (hc:seed.length≠32∨ht < 0∨6 < ht) :
  Fun Tryz.prog aO 39 [.str seed,.int .i64 ht] [] 0 (.tup [.agg (aB bY),.int .i64 1]) [] 0:=by
 refine bT none cF bI WX (Nat.le_of_ble_eq_true rfl) (fun η=>by simp only[SV.ren,SV.renL,aC]) ?_
 conv in aJ _ _=>(reduce;simp only[aH,seval])
 rw[aQ]
 by_cases h1:seed.length=32
 ·have c0:((seed.length:Int) != 32)=false:=by rw[h1];rfl
  by_cases h2:ht < 0
  ·simp only[c0,h2,undef,bC,aF,BC,↓PC,seval]
   rfl
  ·have c2:ht > 6:=by omega
   simp only[c0,h2,c2,bC,aF,BC,↓PC,seval]
   rfl
 ·have c0:((seed.length:Int) != 32)=true:=by simp;omega
  simp only[c0,undef,bC,aF,BC,↓PC,seval]
  rfl
def ZO (R:List UInt8→Nat→List UInt8):List SV→Option SV
 | [.str seed,.int .i64 ht]=>match decide (seed.length=32∧0≤ht∧ht≤6) with
  | true=>some (.tup [.agg (aB (R seed ht.toNat)),.int .i64 0])
  | false=>some (.tup [.agg (aB bY),.int .i64 1])
 | _=>none
def rL (seed:List UInt8) (h:Nat):List UInt8:=dM h (eS seed h)
theorem Ix (seed:List UInt8) (h:Nat):(rL seed h).length=16:=dJ _ _
theorem Sf {R:List UInt8→Nat→List UInt8} {seed:List UInt8} {h:Nat} (hs:seed.length=32) (hh:h≤6):ZO R [.str seed,.int .i64 (h:Int)]=some (.tup [.agg (aB (R seed h)),.int .i64 0]):=by
 unfold ZO
 simp only
 rw[decide_eq_true ⟨hs,by omega,by omega⟩,Int.toNat_natCast]
def QQ (R:List UInt8→Nat→List UInt8):Prop:=∀ (seed:List UInt8) (h:Nat),seed.length=32→h≤6→Fun Tryz.prog aO 39 [.str seed,.int .i64 (h:Int)] [] 0 (.tup [.agg (aB (R seed h)),.int .i64 0]) [] 0
theorem V0:QQ rL:=fun seed h hs hh=>QP eS Ga seed h hs hh
def QR:List SV→Option SV
 | [.str seed,.agg cells]=>match rQ cells with
  | some d=>if seed.length≤64∧d.length=16 then some (.str (pA seed d)) else none
  | none=>none
 | _=>none
theorem Sh {seed d:List UInt8} (hs:seed.length≤64) (hd:d.length=16):QR [.str seed,.agg (aB d)]=some (.str (pA seed d)):=by
 unfold QR
 simp only[aT]
 rw[if_pos ⟨hs,hd⟩]
def Mi (R:List UInt8→Nat→List UInt8):Tab:=⟨[(39,ZO R),(93,Bl),(94,Bk),(92,QR)],[]⟩
theorem Si {R:List UInt8→Nat→List UInt8} (HR:QQ R):TabX Tryz.prog aO (Mi R):=by
 refine⟨fun x h args r hr=>?_,fun x h=>by simp[Mi] at h⟩
 simp only[Mi,List.mem_cons,List.not_mem_nil,or_false] at h
 rcases h with rfl|rfl|rfl|rfl
 ·simp only at hr
  unfold ZO at hr
  split at hr
  ·split at hr
   ·rename_i hc
    have hc:=of_decide_eq_true hc
    obtain⟨h1,h2,h3⟩:=hc
    obtain⟨k,rfl⟩:=Int.eq_ofNat_of_zero_le h2
    cases hr
    rw[Int.toNat_natCast]
    exact⟨HR _ k h1 (by omega),fun η=>rfl,fun η=>by simp only[SV.renL,SV.ren,aC]⟩
   ·rename_i hc
    have hc:=of_decide_eq_false hc
    cases hr
    exact⟨YW _ _ (by omega),fun η=>rfl,fun η=>by simp only[SV.renL,SV.ren,aC]⟩
  ·cases hr
 ·simp only at hr
  unfold Bl at hr
  split at hr
  ·split at hr
   ·rename_i hc
    cases hr
    exact⟨Xe _ _ hc.1 hc.2,fun η=>rfl,fun η=>rfl⟩
   ·cases hr
  ·cases hr
 ·simp only at hr
  obtain⟨h1,h2,h3⟩:=Dm (f:=94) (fun p msg i h1 h2 h3=>f67 p msg i h1 h2 h3) args r hr
  exact⟨h1,h2,fun η=>by simp only[SV.renL,h3]⟩
 ·simp only at hr
  unfold QR at hr
  split at hr
  ·split at hr
   ·rename_i d hd
    split at hr
    ·rename_i hc
     cases hr
     rw[b8 hd]
     exact⟨AAf _ d hc.1 hc.2,fun η=>by simp only[SV.renL,SV.ren,aC],fun η=>rfl⟩
    ·cases hr
   ·cases hr
  ·cases hr
def BW (i:Int) (G:List UInt8) (h:Nat) (Y:List UInt8):List UInt8:=aP i++bU G++(aP (h:Int)++Y)
theorem YX (L:List UInt8→Nat→List UInt8) (H:Iv L) (R:List UInt8→Nat→List UInt8) (HR:QQ R) (seed msg:List UInt8) (h i:Nat) (hs:seed.length=32) (hh:h≤6) (hi:i < 2 ^ h) (hm:msg.length≤1048576)
  (S D G:List UInt8) (lR:(R seed h).length=16) (gS:Bl [.str seed,.int .i64 (i:Int)]=some (.str S)) (gD:Bk [.agg (aB (R seed h)),.int .i64 (i:Int),.str msg]=some (.agg (aB D)))
  (hD:D.length=16) (gG:QR [.str S,.agg (aB D)]=some (.str G)) (hG:G.length=560) :
  Fun Tryz.prog aO 48 [.str seed,.int .i64 (h:Int),.int .i64 (i:Int),.str msg] [] 0 (.tup [.str (BW (i:Int) G h (kY h (L seed h) i)),.int .i64 0]) [] 0:=by
 refine bT none (dR (Dw L h) (gT (Mi R))) (bA (Iw H hh) (cN (Si HR))) ZZ (Nat.le_of_ble_eq_true rfl) (fun η=>by simp only[SV.ren,SV.renL]) ?_
 conv in aJ _ _=>(reduce;simp only[aH,seval])
 rw[aQ]
 unfold BW
 have lL:=(H seed h (by omega) hh).1
 have gl:=L5 (L:=L) (seed:=seed) (h:=h) (by omega) hh
 have gP:=Sf (R:=R) hs hh
 generalize L seed h=X at *
 have gp:=G4 (h:=h) rfl lL hi
 have lY:=mF h X i
 generalize kY h X i=Y at *
 generalize R seed h=Q at *
 have lQ:(aB Q).length=16:=by rw[aA,lR]
 have tQ:=cI lR
 have fQ:=aX Q
 have fD:=aX D
 have lX:(aB X).length=16 * 2 ^ h:=by rw[aA,lL]
 have tX:List.take (2 ^ h * 16) (aB X)=aB X:=List.take_of_length_le (by omega)
 have c1:¬ (i:Int) < 0:=by omega
 have hsh:=G0 hh
 have hP:P2 h=((2 ^ h:Nat):Int):=rfl
 rw[hP] at hsh
 have h0:(0:Int)≤(h:Int):=by omega
 have c2:¬ (i:Int) ≥ ((2 ^ h:Nat):Int):=by omega
 have c3:2 ^ h * 16≤16 * 2 ^ h:=by omega
 have c4:¬ (msg.length:Int) > 1048576:=by omega
 have n64:2 ^ h≤64:=by have:=(y6 hh).1;rw[hP] at this;omega
 have gi:=mB (n:=(i:Int)) ⟨by omega,by omega⟩
 have gb:=vM (s:=G) (by omega)
 have le1:=aS (i:Int)
 have le2:=aS (h:Int)
 have le3:(bU G).length≤600:=by have:=aS (G.length:Int);simp only[bU,List.length_append];omega
 generalize aP (i:Int)=E at *
 generalize bU G=B at *
 have tE:=a9 E
 have auE:=dD E
 have mbE:=bR E
 have tB:=a9 B
 have auB:=dD B
 have mbB:=bR B
 generalize 2 ^ h=N at *
 unfold Jp at gp
 rcases Nat.eq_zero_or_pos h with hz|hz
 ·subst hz
  obtain rfl:Y=[]:=List.length_eq_zero_iff.1 (by omega)
  have gd:=Sc
  simp only[Int.cast_ofNat_Int] at gP gl hsh h0 le2 ⊢
  have tF:=a9 (aP 0)
  have auF:=dD (aP 0)
  have mbF:=bR (aP 0)
  generalize aP 0=F at *
  simp only[mZ,m5,m6] at gp
  simp only[Dw,Mi,↓gP,↓gl,↓gp,↓gS,↓gD,↓gG,↓gi,↓gb,↓gd,lQ,tQ,fQ,fD,lX,tX,c1,c2,c3,c4,hsh,h0,tE,auE,mbE,tB,auB,mbB,tF,auF,mbF,oZ,bC,aF,BC,↓PC,seval]
  exact⟨by unfold cH;omega,by unfold cH;rw[List.length_append];omega⟩
 ·rw[eL hz,eE hz,eO hz] at gp
  have gd:=QN (n:=h) lY (by omega)
  have lFY:(aP (h:Int)++Y).length≤1000:=by rw[List.length_append];omega
  generalize aP (h:Int)++Y=F at *
  have tF:=a9 F
  have auF:=dD F
  have mbF:=bR F
  have lYb:(aB Y).length=16 * h:=by rw[aA,lY]
  have tY:List.take (h * 16) (aB Y)=aB Y:=List.take_of_length_le (by omega)
  have c5:h * 16≤16 * h:=by omega
  have fY:=aX Y
  simp only[Dw,Mi,↓gP,↓gl,↓gp,↓gS,↓gD,↓gG,↓gi,↓gb,↓gd,lQ,tQ,fQ,fD,lX,tX,c1,c2,c3,c4,c5,hsh,h0,tE,auE,mbE,tB,auB,mbB,tF,auF,mbF,lYb,tY,fY,oZ,bC,aF,BC,↓PC,seval]
  exact⟨by unfold cH;omega,by unfold cH;rw[List.length_append];omega⟩
theorem L6 (k:Nat):∀ (b a h:Nat) (v:List UInt8),iV k a (h+b) (iV k b h v)=iV k (b+a) h v
 | 0,a,h,v=>by rw[Nat.zero_add];rfl
 | b+1,a,h,v=>by
  rw[show b+1+a=(b+a)+1 by omega]
  simp only[iV]
  rw[show h+(b+1)=(h+1)+b by omega]
  exact L6 k b a (h+1) _
theorem Sj (seed d:List UInt8) {k:Nat} (hk:k < 35):pS d (pA seed d) k=A3 seed k:=by
 unfold pS o8 pA
 rw[BQ hk (fun j _=>qX seed d j)]
 unfold GP A3
 have ht:=(o9 d hk).1
 have:=L6 k (tG d k) (15 - tG d k) 0 (GN seed (k:Int))
 rw[Nat.zero_add] at this
 rw[this]
 congr 1
 omega
theorem Sk (seed d:List UInt8):tJ d (pA seed d)=yW seed:=by
 unfold tJ yW jD jZ
 congr 2
 refine congrArg List.flatten (List.map_congr_left fun k hk=>?_)
 exact Sj seed d (by simpa using hk)
theorem CY {Y R:List UInt8} {h:Nat} (hY:Y.length=16 * h) (hR:R.length=16):d8 (Y++R) h=R:=by
 unfold d8
 rw[List.drop_left' hY]
 exact List.take_of_length_le (by omega)
theorem L7 {Y R:List UInt8} {h j:Nat} (hY:Y.length=16 * h) (hj:j < h):d8 (Y++R) j=d8 Y j:=by
 unfold d8
 rw[List.drop_append_of_le_length (by omega),List.take_append_of_le_length (by rw[List.length_drop];omega)]
theorem Tb (tag:Int) (ps:List (List UInt8)):nV (dV tag ps)=dE tag ps:=rfl
theorem zX:∀ (h:Nat) (X:List UInt8) (i:Nat),X.length=16 * 2 ^ h→i < 2 ^ h→nV (fW i ((X.drop (16 * i)).take 16) (kY h X i) h)=dM h X
 | 0,X,i,hX,hi=>by
  obtain rfl:i=0:=by simpa using hi
  have hX:X.length=16:=hX
  simp only[Nat.mul_zero,List.drop_zero]
  rw[List.take_of_length_le (by omega)]
  rfl
 | h+1,X,i,hX,hi=>by
  have e2:2 ^ (h+1)=2 ^ h+2 ^ h:=by rw[Nat.pow_succ];omega
  rw[e2] at hX
  have x1:(X.take (16 * 2 ^ h)).length=16 * 2 ^ h:=by rw[List.length_take];omega
  have x2:(X.drop (16 * 2 ^ h)).length=16 * 2 ^ h:=by rw[List.length_drop];omega
  rw[show dM (h+1) X=dE 2 [dM h (X.take (16 * 2 ^ h)),dM h (X.drop (16 * 2 ^ h))] from rfl,
   show kY (h+1) X i=(if i < 2 ^ h then kY h (X.take (16 * 2 ^ h)) i++dM h (X.drop (16 * 2 ^ h)) else kY h (X.drop (16 * 2 ^ h)) (i - 2 ^ h)++dM h (X.take (16 * 2 ^ h))) from rfl]
  simp only[fW]
  by_cases hik:i < 2 ^ h
  ·rw[if_pos hik,vN hik]
   simp only[Bool.false_eq_true,if_false]
   have lp:=mF h (X.take (16 * 2 ^ h)) i
   have lr:=dJ h (X.drop (16 * 2 ^ h))
   rw[CY lp lr,Tb]
   have IH:=zX h (X.take (16 * 2 ^ h)) i x1 hik
   have ed:((X.take (16 * 2 ^ h)).drop (16 * i)).take 16=(X.drop (16 * i)).take 16:=by
    rw[List.drop_take,List.take_take,Nat.min_eq_left (by omega)]
   rw[ed] at IH
   rw[fS (i':=i) (X':=kY h (X.take (16 * 2 ^ h)) i) h (fun _ _=>rfl) (fun j hj=>L7 lp hj),IH]
  ·have hi2:i - 2 ^ h < 2 ^ h:=by omega
   rw[if_neg hik,qY (by omega) hi]
   simp only[if_true]
   have lp:=mF h (X.drop (16 * 2 ^ h)) (i - 2 ^ h)
   have lr:=dJ h (X.take (16 * 2 ^ h))
   rw[CY lp lr,Tb]
   have IH:=zX h (X.drop (16 * 2 ^ h)) (i - 2 ^ h) x2 hi2
   have ed:((X.drop (16 * 2 ^ h)).drop (16 * (i - 2 ^ h))).take 16=(X.drop (16 * i)).take 16:=by
    rw[List.drop_drop,← Nat.mul_add,show 2 ^ h+(i - 2 ^ h)=i by omega]
   rw[ed] at IH
   rw[fS (i':=i - 2 ^ h) (X':=kY h (X.drop (16 * 2 ^ h)) (i - 2 ^ h)) h (fun j hj=>(qZ (by omega) hj).symm) (fun j hj=>L7 lp hj),IH]
theorem QS (seed msg:List UInt8) (h i:Nat) (hh:h≤6) (hi:i < 2 ^ h) (hm:msg.length≤1048576) :
  rJ (rL seed h) (h:Int) msg (BW (i:Int) (pA (gM seed (i:Int)) (dE 6 [rL seed h,aP (i:Int),msg])) h (kY h (eS seed h) i))=((i:Int),0):=by
 rw[CT hh hm]
 have n64:2 ^ h≤64:=by have:=(y6 hh).1;unfold P2 at this;omega
 have lX:=xL seed h
 have lY:=mF h (eS seed h) i
 have key:=zX h (eS seed h) i lX hi
 have hleaf:((eS seed h).drop (16 * i)).take 16=Pv seed i:=BQ hi (fun k _=>CU seed k)
 rw[hleaf] at key
 have hG:=uO (gM seed (i:Int)) (dE 6 [rL seed h,aP (i:Int),msg])
 have hrec:=Sk (gM seed (i:Int)) (dE 6 [rL seed h,aP (i:Int),msg])
 rw[show yW (gM seed (i:Int))=Pv seed i from rfl] at hrec
 rw[show dM h (eS seed h)=rL seed h from rfl] at key
 generalize kY h (eS seed h) i=Y at *
 generalize pA (gM seed (i:Int)) (dE 6 [rL seed h,aP (i:Int),msg])=G at *
 have d1:=vP (n:=(i:Int)) ⟨by omega,by omega⟩ (bU G++(aP (h:Int)++Y))
 have d2:=yM (s:=G) (q:=aP (h:Int)++Y) (by omega)
 have d3:=vP (n:=(h:Int)) ⟨by omega,by omega⟩ Y
 have hsg:BW (i:Int) G h Y=aP (i:Int)++(bU G++(aP (h:Int)++Y)):=by unfold BW;rw[List.append_assoc]
 have hc16:fT (aP (h:Int)++Y) 16=0:=by
  unfold fT
  rw[d3]
  simp only
  rw[if_neg (by simp),if_neg (by omega),if_neg]
  rw[List.length_append,lY,Nat.add_sub_cancel_left,Nat.mul_div_cancel_left _ (by decide)]
  omega
 have hN:kB (aP (h:Int)++Y)=h:=by unfold kB;rw[if_neg (by simpa using hc16),d3];simp
 have hU:uP (aP (h:Int)++Y)=(aP (h:Int)).length+16 * h:=by unfold uP;rw[if_neg (by simpa using hc16),d3];simp
 have hXx:rU (aP (h:Int)++Y)=Y:=by
  unfold rU
  rw[if_neg (by simpa using hc16),d3]
  simp only[List.drop_left,Int.toNat_natCast]
  exact List.take_of_length_le (by omega)
 have hg:pD (BW (i:Int) G h Y)=⟨(i:Int),(aP (i:Int)).length,0,G,(bU G).length,0,h,(aP (h:Int)).length+16 * h,0,Y⟩:=by
  unfold pD
  rw[hsg,d1]
  simp only[List.drop_left]
  rw[d2]
  simp only
  rw[← List.drop_drop,List.drop_left,List.drop_left,hN,hU,hXx,hc16]
 rw[hg]
 simp only[Int.toNat_natCast]
 rw[if_neg (by simp),if_neg (by simp),if_neg (by simp),if_neg,if_neg (by omega),hrec,key]
 ·simp
 ·have hl:(BW (i:Int) G h Y).length=(aP (i:Int)).length+(bU G).length+((aP (h:Int)).length+16 * h):=by
   rw[hsg];simp only[List.length_append,lY];omega
  unfold P2
  omega
end Go.Proofs.YtmhkkalbijbplaaGreatDoor
