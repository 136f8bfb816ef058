/- The proof, part Vi: StrC, RotA, RotB, RotD, LwK, RotE, RotF, ApA. -/
import Derived.Test.YtmhkkalbijbplaaGreatDoorVg
import Derived.Test.YtmhkkalbijbplaaGreatDoorVh
import Derived.Test.YtmhkkalbijbplaaGreatDoorChecked
import Derived.KernelRfl
import Derived.Test.YtmhkkalbijbplaaGreatDoorCards
import Derived.Test.YtmhkkalbijbplaaGreatDoorTie
import Derived.RowKit
import Derived.ProofKit
import Derived.Deep.DeepHandedRow
set_option linter.unusedSimpArgs false
set_option linter.unusedVariables false
set_option maxRecDepth 100000
set_option maxHeartbeats 16000000
namespace Go.Proofs.YtmhkkalbijbplaaGreatDoor
open Go Go.Sx
variable {tS:List (Nat × List SV)}
def m9 (ps:List (List UInt8)):List SV:=ps.map SV.str
theorem BH:∀ ps:List (List UInt8),SV.flatL (m9 ps)=true
 | []=>rfl
 | p :: ps=>by simp only[m9,List.map_cons,SV.flatL,SV.flat,Bool.true_and];exact BH ps
theorem Hv (η:Nat→Nat × Nat) (ps:List (List UInt8)):SV.renL η (m9 ps)=m9 ps:=SV.flatL_ren η _ (BH ps)
theorem AU (ps:List (List UInt8)):(m9 ps).length=ps.length:=by simp[m9]
theorem Hw {ps:List (List UInt8)} {j:Nat} {p:List UInt8} (h:ps[j]?=some p):(m9 ps)[j]?=some (.str p):=by simp[m9,h]
theorem yC {s:List UInt8} (h:s.length≤2 ^ 39):zJ [.str s] []=some (.slc 0 0 1 (bU s).length none,[(0,⟨.own 5,aB (bU s)⟩)],1):=by
 simp[zJ,h]
def dV (tag:Int) (ps:List (List UInt8)):List UInt8:=kF tag :: (ps.map bU).flatten
def dE (tag:Int) (ps:List (List UInt8)):List UInt8:=(jR (dV tag ps)).take 16
theorem Hx {tag:Int} {ps:List (List UInt8)} {j:Nat} {p:List UInt8} (h:ps[j]?=some p):dV tag (ps.take j)++bU p=dV tag (ps.take (j+1)):=by
 unfold dV
 rw[List.take_add_one,h]
 simp
theorem Kf {ps:List (List UInt8)} {j:Nat}:(((ps.take j).map bU).flatten).length≤((ps.map bU).flatten).length:=by
 have:=congrArg (fun l=>((l.map bU).flatten).length) (List.take_append_drop j ps)
 simp only[List.map_append,List.flatten_append,List.length_append] at this
 omega
theorem jS (m:List UInt8):(jR m).length=32:=OY _
theorem bK (tag:Int) (ps:List (List UInt8)):(dE tag ps).length=16:=by simp[dE,jS]
theorem fN {a b:List SV} (h:b.length=a.length):aF a 0 b=b:=by
 have:=fG (a:=[]) (b:=a) (c:=[]) (k:=0) (d:=b) rfl h
 simpa using this
def wZ:List SV:=List.replicate 16 (.int .u8 0)
def Zq:bG:=dR [(43,zJ)] (gT wX)
theorem Hy:∀ x∈[((43:FuncId),zJ)],dQ Tryz.prog tS x.1 x.2:=by
 intro x hx
 simp only[List.mem_cons,List.not_mem_nil,or_false] at hx
 subst hx
 exact MW
theorem O7:∀ f a m n K,Zq f a m n K→aY Tryz.prog tH f a m n K:=bA Hy (cN Ey)
theorem f39 (tag:Int) (ps:List (List UInt8)) (hp:∀ p∈ps,p.length≤2 ^ 39) (hT:(dV tag ps).length < 2 ^ 57) (hk:ps.length < 2 ^ 60) (cap:Option Nat) (hcap:o5 cap ps.length) :
  Fun Tryz.prog tH 131 [.int .i64 tag,.slc 0 0 1 ps.length cap] [(0,⟨.view,m9 ps⟩)] 1 (.agg (aB (dE tag ps))) [] 1:=by
 refine nN none Zq O7 Wl (Nat.le_of_ble_eq_true rfl) (fun η=>by simp only[SV.ren,aC]) ?_
 conv in aJ _ _=>(reduce;simp only[aH,seval])
 rw[aQ]
 have rH:∀ η (h:HS),SV.renL η h.l=h.l:=HS.l_ren
 have hb0:oJ.b.length=64:=rfl
 have hfl:=HS.l_flat
 have g0:Re []=some (.agg oJ.l):=rfl
 have l0:=HS.l_len hb0
 have tg:Sx.byteOf (SV.int .u8 (IntKind.u8.wrap tag))=kF tag:=rfl
 have ig:Gv (SV.int .u8 (IntKind.u8.wrap tag))=true:=rfl
 have hlT:(dV tag ps).length=1+((ps.map bU).flatten).length:=by simp[dV];omega
 have ga:=CJ (h:=oJ) (t:=[kF tag]) hb0 (by show 0+1 < 2 ^ 60;decide)
 have ll:∀ t,(oJ.add t).l.length=73:=fun t=>HS.l_len (kW t)
 simp only[Zq,wX,↓g0,hfl,tg,ig,↓ga,ll,oZ,bC,aF,BC,↓PC,seval]
 have m0:oJ.add [kF tag]=oJ.add (dV tag (ps.take 0)):=rfl
 rw[m0,aL]
 have rS:∀ η,SV.renL η (m9 ps)=m9 ps:=fun η=>Hv η ps
 have rz:∀ η,SV.renL η wZ=wZ:=fun η=>SV.flatL_ren η wZ rfl
 refine bF O7 (σ:=Nat) (fun j=>[(17,.int .i64 (j:Int)),(16,.int .i64 (ps.length:Int)),(15,.slc 0 0 1 ps.length cap),(5,.ptr 2 0),(4,.ptr 1 0)])
  (fun j=>[(2,⟨.own 151,(oJ.add (dV tag (ps.take j))).l⟩),(1,⟨.own 24,wZ⟩),(0,⟨.view,m9 ps⟩)]) (fun _=>3) (fun j=>j≤ps.length) (fun j=>ps.length - j) 0 ?_ (Nat.zero_le _) ?_
 ·exact⟨[(0,0),(1,0),(3,0)],by simp only[rH,rS,rz,BC,seval] <;> rfl,by simp[BC,seval]⟩
 ·intro j hj
  have hln:=AU ps
  by_cases hj2:j < ps.length
  ·obtain⟨p,hpj⟩:∃ p,ps[j]?=some p:=⟨ps[j],by simp[hj2]⟩
   have hpm:p∈ps:=List.mem_of_getElem? hpj
   have gp:=Hw hpj
   have c1:(j:Int) < (ps.length:Int):=by omega
   have c2:(0:Int)≤(j:Int):=by omega
   have v4:IntKind.i64.wrap ((j:Int)+1)=((j+1:Nat):Int):=by rw[aD (by omega) (by omega)];omega
   have gb:=yC (hp p hpm)
   have hst:=Hx (tag:=tag) hpj
   have hle:(dV tag (ps.take (j+1))).length≤(dV tag ps).length:=by
    have:=Kf (ps:=ps) (j:=j+1)
    simp only[dV,List.length_cons]
    omega
   have hle2:(dV tag (ps.take j)).length+(bU p).length=(dV tag (ps.take (j+1))).length:=by rw[← hst];simp
   have ga2:=CJ (h:=oJ.add (dV tag (ps.take j))) (t:=bU p) (kW _) (by rw[y4];omega)
   have l73:=ll (dV tag (ps.take j))
   have l73':=ll (dV tag (ps.take (j+1)))
   have t73:∀ t,List.take 73 (oJ.add t).l=(oJ.add t).l:=fun t=>HS.l_take (kW t)
   have sp:aF (oJ.add (dV tag (ps.take j))).l 0 (oJ.add (dV tag (ps.take (j+1)))).l=(oJ.add (dV tag (ps.take (j+1)))).l:=by
    have:=fG (a:=[]) (b:=(oJ.add (dV tag (ps.take j))).l) (c:=[]) (k:=0) (d:=(oJ.add (dV tag (ps.take (j+1)))).l) rfl (by rw[ll,ll])
    simpa using this
   rw[HS.add_app,hst] at ga2
   have tb:=a9 (bU p)
   have mb:=bR (bU p)
   have au:=dD (bU p)
   simp only[hln,c1,c2,v4,gp,↓gb,l73,l73',t73,↓ga2,sp,tb,mb,au,hfl,oZ,bC,BC,↓PC,seval]
   exact⟨hj2,j+1,⟨[(0,0),(1,0),(2,0)],by simp only[rH,rS,rz,BC,seval],by simp[BC,seval]⟩,by omega,by omega⟩
  ·obtain rfl:j=ps.length:=by omega
   have e1:ps.take ps.length=ps:=List.take_length
   have gs:=Kc (h:=oJ.add (dV tag ps)) (kW _) (by rw[y4];omega)
   rw[y4,HS.add_app] at gs
   have gs:MU [.agg (oJ.add (dV tag ps)).l]=some (.agg (aB (jR (dV tag ps)))):=gs
   have hx:(jR (dV tag ps)).length=32:=jS _
   generalize hX:jR (dV tag ps)=X at *
   have c3:decide ((ps.length:Int) < (ps.length:Int))=false:=by simp
   have ho:dE tag ps=X.take 16:=by unfold dE;rw[hX]
   have t16:List.take 16 (aB X)=aB (X.take 16):=by simp[aB,List.map_take]
   have l16:(X.take 16).length=16:=by simp[hx]
   have hxl:(aB X).length=32:=by rw[aA,hx]
   have t73:=HS.l_take (kW (dV tag ps))
   have l73:=ll (dV tag ps)
   rw[e1,ho]
   simp only[c3,l73,t73,↓gs,hfl,hxl,bC,BC,↓PC,seval]
   have sX:∀ z:List SV,z.length=32→aF z 0 (aB X)=aB X:=fun z hz=>fN (by rw[hxl,hz])
   have lY:(aB (X.take 16)).length=16:=by rw[aA,l16]
   have sY:aF wZ 0 (aB (X.take 16))=aB (X.take 16):=fN (by rw[lY];rfl)
   rw[sX,t16,sY,List.take_of_length_le (by omega:(aB (X.take 16)).length≤16)]
   ·exact⟨by omega,by omega,by omega,by decide,by omega,rfl⟩
   ·rfl
def xA:List SV→Option (List (List UInt8))
 | []=>some []
 | .str s :: l=>match xA l with
  | some r=>some (s :: r)
  | none=>none
 | _=>none
theorem mN:∀ ps:List (List UInt8),xA (m9 ps)=some ps
 | []=>rfl
 | p :: ps=>by simp only[m9,List.map_cons,xA];rw[show List.map SV.str ps=m9 ps from rfl,mN ps]
theorem vK:∀ {l:List SV} {ps:List (List UInt8)},xA l=some ps→l=m9 ps
 | [],ps,h=>by simp only[xA] at h;cases h;rfl
 | x :: l,ps,h=>by
  unfold xA at h
  split at h
  ·rename_i he;cases he
  ·rename_i s l' he
   cases he
   split at h
   ·rename_i r hr;cases h;rw[vK hr];rfl
   ·cases h
  ·cases h
def Kg (tag:Int) (ps:List (List UInt8)):Prop:=(∀ p∈ps,p.length≤2 ^ 39)∧(dV tag ps).length < 2 ^ 37∧ps.length < 2 ^ 37
instance (tag:Int) (ps:List (List UInt8)):Decidable (Kg tag ps):=by unfold Kg;infer_instance
def T5:GS
 | [.int .i64 tag,.slc 0 0 1 len cap],[(0,⟨.view,cells⟩)]=>match xA cells with
  | some ps=>match jO cap ps.length with
   | true=>if len=ps.length∧Kg tag ps then some (.agg (aB (dE tag ps)),[],1) else none
   | _=>none
  | none=>none
 | _,_=>none
theorem O8:dQ Tryz.prog tH 131 T5:=by
 intro a0 m0 r m1 n1 h
 unfold T5 at h
 split at h
 ·split at h
  ·rename_i ps hps
   split at h
   ·rename_i hcap
    split at h
    ·rename_i hc
     cases h
     obtain⟨rfl,h1,h2,h3⟩:=hc
     rw[vK hps]
     exact⟨f39 _ ps h1 (by omega) (by omega) _ (nM hcap),by simp[dA]⟩
    ·cases h
   ·cases h
  ·cases h
 ·cases h
theorem MX (a b:Int):dL .or .u32 a b=dL .or .u32 b a:=by
 unfold dL
 simp only
 rw[BitVec.or_comm]
theorem f90 (n:Int) (r:Nat) (h1:1≤r) (h2:r≤31):Fun Tryz.prog tS 165 [.int .u32 n,.int .i64 (r:Int)] [] 0 (.int .u32 (mM n r)) [] 0:=by
 refine aR none cF bI XI (Nat.le_of_ble_eq_true rfl) (by decide) ?_
 conv in aJ _ _=>(reduce;simp only[aH,seval])
 rw[aQ]
 have c1:(0:Int)≤(r:Int):=by omega
 have w1:IntKind.i64.wrap (32 - (r:Int))=((32 - r:Nat):Int):=by rw[aD (by omega) (by omega)];omega
 simp only[c1,w1,undef,eF,nD,Ei,cV,jC,touch,clear,eV,lZ,oZ,bC,aF,mI,EF,BC,↓PC,seval]
 exact⟨by omega,[],by simp[List.forall_mem_cons,Option.some_inj,BC,seval],MX _ _⟩
def qT:List SV→Option SV
 | [.int .u32 n,.int .i64 (.ofNat r)]=>if 1≤r∧r≤31 then some (.int .u32 (mM n r)) else none
 | _=>none
theorem Qr {n:Int} {r:Nat} (h1:1≤r) (h2:r≤31):qT [.int .u32 n,.int .i64 (r:Int)]=some (.int .u32 (mM n r)):=by
 show qT [.int .u32 n,.int .i64 (.ofNat r)]=_
 simp only[qT]
 rw[if_pos ⟨h1,h2⟩]
def DQ:Tab:=⟨[(165,qT)],[]⟩
theorem AV:TabX Tryz.prog tS DQ:=by
 refine⟨fun x h args r hr=>?_,fun x h=>by simp[DQ] at h⟩
 simp only[DQ,List.mem_singleton] at h
 subst h
 simp only at hr
 unfold qT at hr
 split at hr
 ·split at hr
  ·rename_i hc
   cases hr
   exact⟨f90 _ _ hc.1 hc.2,fun η=>by simp only[SV.renL,SV.ren],fun η=>by simp only[SV.renL,SV.ren]⟩
  ·cases hr
 ·cases hr
theorem DR (x:Int):IntKind.u32.wrap x=((BitVec.ofInt 32 x).toNat:Int):=by
 rw[K5,BitVec.toNat_ofInt]
 omega
theorem GA (w:Je) (x:Int):sP (w.toNat:Int) x=((w <<< 8 ||| BitVec.ofInt 32 x).toNat:Int):=by
 unfold sP
 rw[Hg w 8 (by decide),DR x,MM]
theorem or4 (x0 x1 x2 x3:Int):dL .or .u32 (dL .or .u32 (dL .or .u32 (IntKind.u32.wrap (IntKind.u32.wrap x0 * 2 ^ (min 24 IntKind.u32.bits))) (IntKind.u32.wrap (IntKind.u32.wrap x1 * 2 ^ (min 16 IntKind.u32.bits))))
  (IntKind.u32.wrap (IntKind.u32.wrap x2 * 2 ^ (min 8 IntKind.u32.bits)))) (IntKind.u32.wrap x3)=sP (sP (sP (sP 0 x0) x1) x2) x3:=by
 have e0:sP 0 x0=((((0:Je) <<< 8) ||| BitVec.ofInt 32 x0).toNat:Int):=GA 0 x0
 rw[e0,GA,GA,GA,DR x0,DR x1,DR x2,DR x3,Hg _ 24 (by decide),Hg _ 16 (by decide),Hg _ 8 (by decide),MM,MM,MM]
 congr 2
 simp[BitVec.shiftLeft_or_distrib,← BitVec.shiftLeft_add]
theorem f89 (b:List Int) (hb:b.length=64) (cap:Option Nat) (hcap:o5 cap 64):Fun Tryz.prog tS 164 [.slc 0 0 1 64 cap] [(0,⟨.view,b.map u8⟩)] 1 (.agg ((iU b 64).map u32)) [] 1:=by
 refine nN none (gT DQ) (cN AV) XH (Nat.le_of_ble_eq_true rfl) (fun η=>Fw η _) ?_
 conv in aJ _ _=>(reduce;simp only[aH,seval])
 rw[aQ]
 simp only[DQ,BC,↓PC,seval]
 rw[aL]
 have hW:=fun η t=>OP η b t
 have hM:=fun η t n=>OQ η b t n
 have hB:=fun η=>Jh η b
 have hz:=fun η=>K6 η
 have hlen:(b.map u8).length=64:=by simp[hb]
 refine bF (cN AV) (σ:=Nat) (fun t=>[(4,.int .i64 (t:Int)),(3,.ptr 2 0),(2,.ptr 1 0),(0,.slc 0 0 1 64 cap)])
  (fun t=>[(2,⟨.own 169,cW b t⟩),(1,⟨.own 169,Ms⟩),(0,⟨.view,b.map u8⟩)]) (fun _=>3) (fun t=>t≤16) (fun t=>16 - t) 0 ?_ (Nat.zero_le _) ?_
 ·exact⟨[(0,0),(1,0),(2,0)],by simp only[hW,hB,hz,BC,seval];trivial,by simp[BC,seval]⟩
 ·intro t ht
  by_cases uT:t < 16
  ·have i1:(t:Int) < 16:=by omega
   have i0:(0:Int)≤(t:Int):=by omega
   have i3:(t:Int) < 64:=by omega
   have wt:IntKind.i64.wrap ((t:Int)+1)=((t+1:Nat):Int):=by rw[wrap64 (by omega) (by omega)];omega
   have w1:IntKind.i64.wrap (4 * (t:Int))=((4 * t:Nat):Int):=by rw[wrap64 (by omega) (by omega)];omega
   have w2:IntKind.i64.wrap (((4 * t:Nat):Int)+1)=((4 * t+1:Nat):Int):=by rw[wrap64 (by omega) (by omega)];omega
   have w3:IntKind.i64.wrap (((4 * t:Nat):Int)+2)=((4 * t+2:Nat):Int):=by rw[wrap64 (by omega) (by omega)];omega
   have w4:IntKind.i64.wrap (((4 * t:Nat):Int)+3)=((4 * t+3:Nat):Int):=by rw[wrap64 (by omega) (by omega)];omega
   have hj:∀ j,4 * t+j < 64→(b.map u8)[4 * t+j]?=some (u8 (b.getD (4 * t+j) 0)):=by
    intro j hj
    simp[List.getD_eq_getElem?_getD,show 4 * t+j < b.length by omega]
   have h0:=hj 0 (by omega)
   rw[Nat.add_zero] at h0
   have h1:=hj 1 (by omega)
   have h2:=hj 2 (by omega)
   have h3:=hj 3 (by omega)
   have v0:(0:Int)≤((4 * t:Nat):Int)∧((4 * t:Nat):Int) < 64:=by omega
   have v1:(0:Int)≤((4 * t+1:Nat):Int)∧((4 * t+1:Nat):Int) < 64:=by omega
   have v2:(0:Int)≤((4 * t+2:Nat):Int)∧((4 * t+2:Nat):Int) < 64:=by omega
   have v3:(0:Int)≤((4 * t+3:Nat):Int)∧((4 * t+3:Nat):Int) < 64:=by omega
   simp only[h0,h1,h2,h3,hlen,i1,i0,i3,w1,w2,w3,w4,v0.1,v0.2,v1.1,v1.2,v2.1,v2.2,v3.1,v3.2,BF (show t≤64 by omega),Fv (show t < 64 by omega),wt,u8,or4,bC,BC,↓PC,seval]
   refine⟨by omega,by omega,by omega,by omega,by omega,t+1,⟨[(0,0),(1,0),(2,0)],?_,by simp[BC,seval]⟩,by omega,by omega⟩
   rw[← CI (b:=b) (t:=t),show v8 b (iU b t) t=OM b t from if_pos uT]
   unfold OM
   simp only[hM,hB,hz,BC,seval]
  ·obtain rfl:t=16:=by omega
   simp only[BC,↓PC,seval]
   rw[aL]
   refine bF (cN AV) (σ:=Nat) (fun t=>[(5,.int .i64 (t:Int)),(3,.ptr 2 0),(2,.ptr 1 0)])
    (fun t=>[(2,⟨.own 169,cW b t⟩),(1,⟨.own 169,Ms⟩),(0,⟨.view,b.map u8⟩)]) (fun _=>3) (fun t=>16≤t∧t≤64) (fun t=>64 - t) 16 ?_ (by decide) ?_
   ·exact⟨[(0,0),(1,0),(2,0)],by simp only[hW,hB,hz,BC,seval],by simp[BC,seval]⟩
   ·intro t ht
    by_cases JI:t < 64
    ·have i1:(t:Int) < 64:=by omega
     have i0:(0:Int)≤(t:Int):=by omega
     have wt:IntKind.i64.wrap ((t:Int)+1)=((t+1:Nat):Int):=by rw[wrap64 (by omega) (by omega)];omega
     have a1:IntKind.i64.wrap ((t:Int) - 15)=((t - 15:Nat):Int):=by rw[wrap64 (by omega) (by omega)];omega
     have a2:IntKind.i64.wrap ((t:Int) - 2)=((t - 2:Nat):Int):=by rw[wrap64 (by omega) (by omega)];omega
     have a3:IntKind.i64.wrap ((t:Int) - 16)=((t - 16:Nat):Int):=by rw[wrap64 (by omega) (by omega)];omega
     have a4:IntKind.i64.wrap ((t:Int) - 7)=((t - 7:Nat):Int):=by rw[wrap64 (by omega) (by omega)];omega
     have b1:(0:Int)≤((t - 15:Nat):Int)∧((t - 15:Nat):Int) < 64:=by omega
     have b2:(0:Int)≤((t - 2:Nat):Int)∧((t - 2:Nat):Int) < 64:=by omega
     have b3:(0:Int)≤((t - 16:Nat):Int)∧((t - 16:Nat):Int) < 64:=by omega
     have b4:(0:Int)≤((t - 7:Nat):Int)∧((t - 7:Nat):Int) < 64:=by omega
     have c1:(cW b t)[t - 15]?=_:=wV (by omega)
     have c2:(cW b t)[t - 2]?=_:=wV (by omega)
     have c3:(cW b t)[t - 16]?=_:=wV (by omega)
     have c4:(cW b t)[t - 7]?=_:=wV (by omega)
     have g7:∀ n,qT [.int .u32 n,.int .i64 7]=some (.int .u32 (mM n 7)):=fun n=>Qr (r:=7) (by decide) (by decide)
     have g18:∀ n,qT [.int .u32 n,.int .i64 18]=some (.int .u32 (mM n 18)):=fun n=>Qr (r:=18) (by decide) (by decide)
     have g17:∀ n,qT [.int .u32 n,.int .i64 17]=some (.int .u32 (mM n 17)):=fun n=>Qr (r:=17) (by decide) (by decide)
     have g19:∀ n,qT [.int .u32 n,.int .i64 19]=some (.int .u32 (mM n 19)):=fun n=>Qr (r:=19) (by decide) (by decide)
     simp only[i1,i0,a1,a2,a3,a4,b1.1,b2.1,b3.1,b4.1,b1.2,b2.2,b3.2,b4.2,c1,c2,c3,c4,↓g7,↓g18,↓g17,↓g19,BF ht.2,Fv JI,wt,u32,bC,BC,↓PC,seval]
     refine⟨by omega,t+1,⟨[(0,0),(1,0),(2,0)],?_,by simp[BC,seval]⟩,by omega,by omega⟩
     rw[← CI (b:=b) (t:=t),show v8 b (iU b t) t=_ from if_neg (by omega)]
     unfold oI ON OO OL
     simp only[hM,hB,hz,BC,seval]
    ·obtain rfl:t=64:=by omega
     simp only[bC,aF,BC,↓PC,seval]
     have hl:=BF (b:=b) (Nat.le_refl 64)
     have hz:Ms.length=64:=by simp[Ms]
     have hd:List.drop 64 Ms=[]:=List.drop_of_length_le (by omega)
     rw[List.take_of_length_le (by omega:(cW b 64).length≤64),hl,hd,List.append_nil,hl,hz,List.take_of_length_le (by omega:(cW b 64).length≤64),OR]
     exact⟨Nat.le_refl _,rfl,Nat.le_refl _,Nat.le_refl _,rfl⟩
theorem O9:dQ Tryz.prog tS 164 Fx:=by
 intro a0 m0 r m1 n1 h
 unfold Fx at h
 split at h
 ·rename_i cap cells
  split at h
  ·rename_i b hb
   split at h
   ·rename_i h1 h2
    cases h
    rw[yB hb]
    exact⟨f89 b (Nat.eq_of_beq_eq_true h1) cap (nM h2),by simp[dA]⟩
   ·cases h
  ·cases h
 ·cases h
def aO:List (Nat × List SV):=[(0,kc.map u32),(1,kc.map u32)]
def GB:List (FuncId × GS):=[(163,O4),(164,Fx)]
theorem MY {tS:List (Nat × List SV)}:∀ x∈GB,dQ Tryz.prog tS x.1 x.2:=by
 intro x hx
 simp only[GB,List.mem_cons,List.not_mem_nil,or_false] at hx
 rcases hx with rfl|rfl
 ·exact Rd
 ·exact O9
def U5:bG:=dR GB (gT DQ)
theorem AW {tS:List (Nat × List SV)}:∀ f a m n K,U5 f a m n K→aY Tryz.prog tS f a m n K:=bA MY (cN AV)
theorem Rf {m:List UInt8} {cap:Option Nat} (hm:m.length≤2 ^ 38) (hcap:o5 cap m.length) :
  O4 [.slc 0 0 1 m.length cap] [(0,⟨.view,aB m⟩)]=some (.slc 1 0 1 (m++jQ m.length).length none,[(1,⟨.own 5,aB (m++jQ m.length)⟩)],2):=by
 have hcb:jO cap m.length=true:=by
  cases cap with
  | none=>rfl
  | some c=>exact Nat.ble_eq_true_of_le (hcap c rfl)
 unfold O4
 simp only[aT,hcb,hm,and_self,if_true]
theorem Rg {b:List UInt8} (hb:b.length=64):Fx [.slc 0 0 1 64 none] [(0,⟨.view,aB b⟩)]=some (.agg ((iU (Be b) 64).map u32),[],1):=by
 unfold Fx
 simp only
 rw[← OW,AR]
 simp only[K8,hb]
 rfl
theorem Oa (e:Int):dL .xor .u32 e 4294967295=OS e:=by
 have h:(if IntKind.u32.signed then (-1:Int) else IntKind.u32.max)=4294967295:=by decide
 unfold OS
 rw[h]
 unfold dL
 simp only
 rw[BitVec.xor_comm]
theorem XR:wR aO 0=some (kc.map u32):=(rfl)
theorem f74 (m:List UInt8) (hm:m.length≤2 ^ 37) (cap:Option Nat) (hcap:o5 cap m.length) :
  Fun Tryz.prog aO 146 [.slc 0 0 1 m.length cap] [(0,⟨.view,aB m⟩)] 1 (.agg (aB (jR m))) [] 1:=by
 refine nN none U5 AW Ww (Nat.le_of_ble_eq_true rfl) (fun η=>by simp only[SV.ren,aC]) ?_
 conv in aJ _ _=>(reduce;simp only[aH,seval])
 rw[aQ]
 have gp:=Rf (m:=m) (cap:=cap) (by omega) hcap
 have tm:=a9 m
 simp only[U5,GB,DQ,↓gp,tm,g9,eq_self,gV,↓eG,Opd.ev,Sx.get,put,bQ,fF,aU,rd,bC,aF,SV.cells?,SV.one,j5,hH,yQ,dT,CF,yR,bB,SV.ren,cQ,bZ,qM,Kind.isOwn,BB,↓PB,seval]
 rw[aL]
 have hML:∃ T,(m++jQ m.length).length=64 * T:=⟨(m++jQ m.length).length / 64,by have:=Hm m.length;simp only[List.length_append] at this ⊢;omega⟩
 have hMu:(m++jQ m.length).length≤2 ^ 38:=by have:=wW m.length;have:=Fy m.length;simp only[List.length_append];omega
 have hfin:jR m=Br (vY (m++jQ m.length)):=rfl
 generalize hM:m++jQ m.length=M at *
 obtain⟨T,hT⟩:=hML
 rw[hT,hfin]
 have rB:∀ η (b:List UInt8),SV.renL η (aB b)=aB b:=fun η b=>aC η b
 have rV:∀ η (s:V8),SV.renL η (s.l.map u32)=s.l.map u32:=fun η s=>DM η _
 have rW:∀ η l,SV.renL η (List.map u32 l)=List.map u32 l:=fun η l=>DM η l
 have hz:∀ η,SV.renL η JN=JN:=fun η=>AS η iv 0
 have v0:vY (M.take (64 * 0))=iv:=rfl
 have hMl:(aB M).length=64 * T:=by rw[aA,hT]
 refine bF AW (σ:=Nat) (fun t=>[(5,.int .i64 ((64 * t:Nat):Int)),(4,.slc 3 0 1 (64 * T) none),(3,.ptr 2 0),(2,.ptr 1 0)])
  (fun t=>[(3,⟨.own 5,aB M⟩),(2,⟨.own 149,(vY (M.take (64 * t))).l.map u32⟩),(1,⟨.own 141,JN⟩)]) (fun _=>4) (fun t=>t≤T) (fun t=>T - t) 0 ?_ (Nat.zero_le _) ?_
 ·exact⟨[(0,0),(1,0),(2,0),(3,0)],by simp only[v0,rB,rV,hz,dS,aK,aM,aG,bB,b7,rd,Kind.isOwn,exists_eq_left',ne_eq,implies_true,false_imp_iff,forall_const,forall_eq_or_imp,forall_eq,BB,seval];exact⟨rfl,rfl⟩,by simp[dI,eX,bB,SV.ren,BB,seval]⟩
 ·intro t ht
  by_cases htT:t < T
  ·have c1:((64 * t:Nat):Int) < ((64 * T:Nat):Int):=by omega
   have w1:IntKind.i64.wrap (((64 * t:Nat):Int)+64)=((64 * (t+1):Nat):Int):=by rw[aD (by omega) (by omega)];omega
   have k1:(0:Int)≤((64 * t:Nat):Int):=by omega
   have k2:((64 * t:Nat):Int)≤((64 * (t+1):Nat):Int):=by omega
   have kle:64 * t+64≤64 * T:=by omega
   have k3:64 * (t+1) - 64 * t=64:=by omega
   have tk:List.take 64 (List.drop (64 * t) (aB M))=aB ((M.drop (64 * t)).take 64):=by simp[aB,List.map_take,List.map_drop]
   have hbl:((M.drop (64 * t)).take 64).length=64:=by simp;omega
   have gs:=Rg hbl
   have hst:=Et (m:=M) (t:=t) (by omega)
   generalize hb:(M.drop (64 * t)).take 64=b at *
   have hsl:(List.map u32 (iU (Be b) 64)).length=64:=by simp[gE]
   have hl8:(List.map u32 (vY (M.take (64 * t))).l).length=8:=rfl
   have tk8:List.take 8 (List.map u32 (vY (M.take (64 * t))).l)=List.map u32 (vY (M.take (64 * t))).l:=rfl
   simp only[c1,w1,k1,k2,k3,kle,Option.map_none,tk,↓gs,hsl,hl8,tk8,rW,hMl,g9,eq_self,↓cL,Opd.ev,Sx.get,put,bQ,fF,aU,rd,bC,SV.cells?,j5,hH,yQ,dT,CF,yR,SV.ren,cQ,bZ,qM,Kind.isOwn,BB,↓PB,seval]
   have sW:∀ z:List SV,z.length=64→aF z 0 (List.map u32 (iU (Be b) 64))=List.map u32 (iU (Be b) 64):=fun z hz=>fN (hsl.trans hz.symm)
   have sV:∀ z:List SV,z.length=8→aF z 0 (List.map u32 (vY (M.take (64 * t))).l)=List.map u32 (vY (M.take (64 * t))).l:=fun z hz=>fN (hl8.trans hz.symm)
   rw[sW,sV]
   rotate_left
   ·rfl
   ·rfl
   refine⟨by omega,?_⟩
   rw[aL]
   generalize oJ:vY (M.take (64 * t))=s0 at *
   obtain⟨a0,a1,a2,a3,a4,a5,a6,a7⟩:=s0
   generalize hRe:(fun r=>V8.rounds (iU (Be b) 64) ⟨a0,a1,a2,a3,a4,a5,a6,a7⟩ r)=R
   have hR0:R 0=⟨a0,a1,a2,a3,a4,a5,a6,a7⟩:=by rw[← hRe];rfl
   have rWW:∀ η,SV.renL η (List.map u32 (iU (Be b) 64))=List.map u32 (iU (Be b) 64):=fun η=>DM η _
   have ru:∀ η n,(u32 n).ren η=u32 n:=fun _ _=>rfl
   generalize hW:List.map u32 (iU (Be b) 64)=W at *
   refine bF AW (σ:=Nat) (fun r=>[(8,.int .i64 (r:Int)),(7,.ptr 5 0),(6,.ptr 4 0),(5,.int .i64 ((64 * t:Nat):Int)),(4,.slc 3 0 1 (64 * T) none),(3,.ptr 2 0),(2,.ptr 1 0)])
    (fun r=>[(5,⟨.own 149,[u32 (R r).a,u32 (R r).b,u32 (R r).c,u32 (R r).d,u32 (R r).e,u32 (R r).f,u32 (R r).g,u32 (R r).h]⟩),(4,⟨.own 169,W⟩),(3,⟨.own 5,aB M⟩),(2,⟨.own 149,[u32 a0,u32 a1,u32 a2,u32 a3,u32 a4,u32 a5,u32 a6,u32 a7]⟩),(1,⟨.own 141,JN⟩)]) (fun _=>6)
    (fun r=>r≤64) (fun r=>64 - r) 0 ?_ (Nat.zero_le _) ?_
   ·exact⟨[(0,0),(1,0),(2,0),(3,0),(4,0),(5,0)],by simp only[V8.l,rB,rWW,ru,hz,hR0,dS,aK,aM,aG,bB,b7,rd,SV.renL,Kind.isOwn,exists_eq_left',ne_eq,implies_true,false_imp_iff,forall_const,forall_eq_or_imp,forall_eq,BB,seval] <;> exact⟨rfl,rfl⟩,by simp[dI,eX,bB,SV.ren,BB,seval]⟩
   ·intro r hr
    by_cases JI:r < 64
    ·have d1:(r:Int) < 64:=by omega
     have d2:(0:Int)≤(r:Int):=by omega
     have wt:IntKind.i64.wrap ((r:Int)+1)=((r+1:Nat):Int):=by rw[aD (by omega) (by omega)];omega
     have gk:(List.map u32 kc)[r]?=some (u32 (kc.getD r 0)):=by
      have:kc.length=64:=rfl
      simp[List.getD_eq_getElem?_getD,show r < kc.length by omega]
     have gw:W[r]?=some (u32 ((iU (Be b) 64).getD r 0)):=by
      rw[← hW]
      simp[List.getD_eq_getElem?_getD,gE,JI]
     have hR1:R (r+1)=(R r).round ((iU (Be b) 64).getD r 0) (kc.getD r 0):=by rw[← hRe];rfl
     generalize hk:kc.getD r 0=k at *
     generalize hwt:(iU (Be b) 64).getD r 0=w at *
     rcases hRt:R r with⟨a,bb,c,d,e,f,g,h⟩
     simp only
     have g6:∀ n,qT [.int .u32 n,.int .i64 6]=some (.int .u32 (mM n 6)):=fun n=>Qr (r:=6) (by decide) (by decide)
     have g11:∀ n,qT [.int .u32 n,.int .i64 11]=some (.int .u32 (mM n 11)):=fun n=>Qr (r:=11) (by decide) (by decide)
     have g25:∀ n,qT [.int .u32 n,.int .i64 25]=some (.int .u32 (mM n 25)):=fun n=>Qr (r:=25) (by decide) (by decide)
     have g2:∀ n,qT [.int .u32 n,.int .i64 2]=some (.int .u32 (mM n 2)):=fun n=>Qr (r:=2) (by decide) (by decide)
     have g13:∀ n,qT [.int .u32 n,.int .i64 13]=some (.int .u32 (mM n 13)):=fun n=>Qr (r:=13) (by decide) (by decide)
     have g22:∀ n,qT [.int .u32 n,.int .i64 22]=some (.int .u32 (mM n 22)):=fun n=>Qr (r:=22) (by decide) (by decide)
     simp only[↓g6,↓g11,↓g25,↓g2,↓g13,↓g22,d1,d2,gk,gw,wt,u32,XR,Oa,SV.flatL,SV.flat,g9,eq_self,↓cL,↓eG,Opd.ev,Sx.get,put,bQ,fF,aU,rd,bC,aF,SV.cells?,SV.one,BB,↓PB,seval]
     rw[hRt] at hR1
     refine⟨r+1,⟨[(0,0),(1,0),(2,0),(3,0),(4,0),(5,0)],?_,?_⟩,by omega,by omega⟩
     ·simp only[hR1,V8.round,oI,MN,Hj,Bq,rB,rWW,hz,dS,aK,aM,aG,bB,b7,rd,SV.ren,SV.renL,Kind.isOwn,exists_eq_left',ne_eq,implies_true,false_imp_iff,forall_const,forall_eq_or_imp,forall_eq,BB,seval]
     ·simp only[dI,eX,bB,SV.ren,BB,seval]
    ·obtain rfl:r=64:=by omega
     rcases hRt:R 64 with⟨a,bb,c,d,e,f,g,h⟩
     have hcomp:comp ⟨a0,a1,a2,a3,a4,a5,a6,a7⟩ (Be b)=V8.add ⟨a0,a1,a2,a3,a4,a5,a6,a7⟩ ⟨a,bb,c,d,e,f,g,h⟩:=by
      unfold comp;rw[← hRt,← hRe]
     simp only
     simp only[u32,eq_self,↓cL,Opd.ev,Sx.get,put,bQ,fF,aU,BB,↓PB,seval]
     rw[aL]
     refine a8 AW (aN _ _) 9 ?_
     simp only[w1,eq_self,↓cL,Opd.ev,Sx.get,put,bQ,fF,aU,rd,bC,aF,SV.cells?,SV.one,BB,↓PB,seval]
     refine⟨t+1,⟨[(0,0),(1,0),(2,0),(3,0)],?_,?_⟩,by omega,by omega⟩
     ·simp only[hst,hcomp,V8.add,oI,V8.l,u32,rB,hz,dS,aK,aM,aG,bB,b7,rd,SV.ren,SV.renL,Kind.isOwn,exists_eq_left',ne_eq,implies_true,false_imp_iff,forall_const,forall_eq_or_imp,forall_eq,BB,seval]
     ·simp only[dI,eX,bB,SV.ren,BB,seval]
  ·obtain rfl:t=T:=by omega
   have eM:M.take (64 * t)=M:=List.take_of_length_le (by omega)
   have c3:decide (((64 * t:Nat):Int) < ((64 * t:Nat):Int))=false:=by simp
   have hl8:(List.map u32 (vY M).l).length=8:=rfl
   rw[eM]
   generalize hS:vY M=S at *
   simp only[c3,eq_self,↓cL,Opd.ev,Sx.get,put,bQ,fF,aU,BB,↓PB,seval]
   rw[aL]
   have rC:∀ η i,SV.renL η (oK S i)=oK S i:=fun η i=>AS η S i
   have hzl:JN.length=32:=rfl
   refine bF AW (σ:=Nat) (fun i=>[(13,.int .i64 (i:Int)),(12,.ptr 4 0),(3,.ptr 2 0),(2,.ptr 1 0)]) (fun i=>[(4,⟨.own 141,oK S i⟩),(2,⟨.own 149,List.map u32 S.l⟩),(1,⟨.own 141,JN⟩)]) (fun _=>5)
    (fun i=>i≤32) (fun i=>32 - i) 0 ?_ (Nat.zero_le _) ?_
   ·exact⟨[(0,0),(1,0),(2,0),(3,0),(4,0)],by simp only[rV,hz,O6,dS,aK,aM,aG,bB,b7,rd,Kind.isOwn,exists_eq_left',ne_eq,implies_true,false_imp_iff,forall_const,forall_eq_or_imp,forall_eq,BB,seval] <;> rfl,by simp[dI,eX,bB,SV.ren,BB,seval]⟩
   ·intro i hi
    have lC:=Hr (s:=S) hi
    by_cases Lj:i < 32
    ·have c1:(i:Int) < 32:=by omega
     have c2:(0:Int)≤(i:Int):=by omega
     have q1:Int.tdiv (i:Int) 4=((i / 4:Nat):Int):=(Int.ofNat_tdiv i 4).symm
     have q2:Int.tmod (i:Int) 4=((i % 4:Nat):Int):=(Int.ofNat_tmod i 4).symm
     have q3:IntKind.i64.wrap ((i / 4:Nat):Int)=((i / 4:Nat):Int):=aD (by omega) (by omega)
     have q4:(0:Int)≤((i / 4:Nat):Int)∧((i / 4:Nat):Int) < 8:=by omega
     have hs:(List.map u32 S.l)[i / 4]?=some (.int .u32 (S.l.getD (i / 4) 0)):=by
      have hl:S.l.length=8:=rfl
      simp[List.getD_eq_getElem?_getD,hl,show i / 4 < 8 by omega,u32]
     have v1:IntKind.i64.wrap (8 * ((i % 4:Nat):Int))=((8 * (i % 4):Nat):Int):=by rw[aD (by omega) (by omega)];omega
     have v2:IntKind.i64.wrap (24 - ((8 * (i % 4):Nat):Int))=((24 - 8 * (i % 4):Nat):Int):=by rw[aD (by omega) (by omega)];omega
     have v3:(0:Int)≤((24 - 8 * (i % 4):Nat):Int):=by omega
     have v4:IntKind.i64.wrap ((i:Int)+1)=((i+1:Nat):Int):=by rw[aD (by omega) (by omega)];omega
     have op:=Ht (s:=S) Lj
     simp only[c1,c2,q1,q2,q3,q4.1,q4.2,hs,v1,v2,v3,v4,lC,op,eq_self,↓cL,Opd.ev,Sx.get,put,bQ,fF,aU,rd,bC,SV.cells?,SV.one,BB,↓PB,seval]
     exact⟨by omega,i+1,⟨[(0,0),(1,0),(2,0),(3,0),(4,0)],by simp only[rV,hz,rC,dS,aK,aM,aG,bB,b7,rd,Kind.isOwn,exists_eq_left',ne_eq,implies_true,false_imp_iff,forall_const,forall_eq_or_imp,forall_eq,BB,seval],by simp[dI,eX,bB,SV.ren,BB,seval]⟩,by omega,by omega⟩
    ·obtain rfl:i=32:=by omega
     simp only[lC,eq_self,↓cL,↓dY,Opd.ev,Sx.get,put,bQ,fF,aU,rd,bC,SV.cells?,dX,BB,↓PB,seval]
     have tC:List.take 32 (oK S 32)=oK S 32:=List.take_of_length_le (by omega)
     have sC:aF JN 0 (oK S 32)=oK S 32:=fN (by rw[lC,hzl])
     rw[tC,sC,tC]
     exact⟨lC,by omega,by omega,Hs S⟩
def Ez:GS
 | [.slc 0 0 1 len cap],[(0,⟨.view,cells⟩)]=>match rQ cells with
  | some m=>match jO cap m.length with
   | true=>if len=m.length∧m.length≤2 ^ 37 then some (.agg (aB (jR m)),[],1) else none
   | _=>none
  | none=>none
 | _,_=>none
theorem IA:dQ Tryz.prog aO 146 Ez:=by
 intro a0 m0 r m1 n1 h
 unfold Ez at h
 split at h
 ·split at h
  ·rename_i m hm
   split at h
   ·rename_i hcap
    split at h
    ·rename_i hc
     cases h
     obtain⟨rfl,h2⟩:=hc
     rw[b8 hm]
     exact⟨f74 m h2 _ (nM hcap),by simp[dA]⟩
    ·cases h
   ·cases h
  ·cases h
 ·cases h
open Go.ChangeShapes Go.WideShapes
theorem own:ownKnob Tryz.prog.godebug=none:=by kernel_rfl
def T6:String:=((Rows.headSignaturesAreAcceptedRow.laid.map (·.1)).drop 1).headD default
def XS:String:=(Rows.headSignaturesAreAcceptedRow.laid.map (·.1)).headD default
theorem XT:Tryz.prog.globalNamed T6=some 1:=by kernel_rfl
theorem MZ:(Tryz.prog.globals[1]?).map (·.type)=some 169:=by kernel_rfl
theorem IB:wU Tryz.prog 5 169=some 64:=by kernel_rfl
theorem Ob:(fJ (H:=Unit) Rows.laid_custody_hash_constants).length=64:=by rfl
theorem Oc:(fJ (H:=Unit) Rows.laid_custody_hash_constants).map Hf=kc.map u32:=by rfl
theorem Zr:Tryz.prog.globalNamed XS=some 0:=by kernel_rfl
theorem Od:(Tryz.prog.globals[0]?).map (·.type)=some 169:=by kernel_rfl
theorem Rh:(fJ (H:=Unit) Rows.laid_custody_custodyref02_constants).length=64:=by rfl
theorem Ri:(fJ (H:=Unit) Rows.laid_custody_custodyref02_constants).map Hf=kc.map u32:=by rfl
theorem zK {W:World} (h:laidMet Tryz.prog Rows.headSignaturesAreAcceptedRow.laid W):wA aO W:=by
 obtain⟨ps,h,_⟩:=h
 intro g cs hm
 simp only[aO,List.mem_cons,List.not_mem_nil,or_false] at hm
 rcases hm with hm|hm
 ·cases hm
  rw[← Ri]
  exact Bc h (name:=XS) List.mem_cons_self Zr Od IB Rh (by decide)
 ·cases hm
  rw[← Oc]
  exact Bc h (name:=T6) (List.mem_cons_of_mem _ List.mem_cons_self) XT MZ IB Ob (by decide)
theorem yD {W:World} (h:laidMet Tryz.prog Rows.headSignaturesAreAcceptedRow.laid W):0 < W.heap.size:=
 (zK h 0 _ List.mem_cons_self).1
theorem FA:Tryz.prog.underlying 4=some .bool:=by kernel_rfl
theorem qU {n:Int} (h:(Lit.int .u8 n).wf=true):0≤n∧n < 256:=by
 simp[Lit.wf,IntKind.min,IntKind.max,IntKind.signed,IntKind.bits] at h;omega
theorem iI {n:Int} (h:(Lit.int .i64 n).wf=true):kJ n:=by
 simp[Lit.wf,IntKind.min,IntKind.max,IntKind.signed,IntKind.bits] at h;exact⟨by omega,by omega⟩
noncomputable def DS (os:Os):World:=
 { World.holding Tryz.prog os ⟨#[],#[],[]⟩ with heap:=(World.holding Tryz.prog os ⟨#[],#[],[]⟩).heap.modify 1 fun
  | .cells _ t frozen=>.cells (fJ (H:=Unit) Rows.laid_custody_hash_constants).toArray t frozen
  | o=>o }
noncomputable def dZ (os:Os):World:=
 { DS os with heap:=(DS os).heap.modify 0 fun
  | .cells _ t frozen=>.cells (fJ (H:=Unit) Rows.laid_custody_custodyref02_constants).toArray t frozen
  | o=>o }
theorem pR {ks:List LK} {n n':Nat} {m:bL}:∀ (k:Nat) {vs:List SV},vX (List.replicate k (.t (.i .u8))++ks) n vs m n'→∃ (d:List UInt8) (vs':List SV),d.length=k∧vs=aB d++vs'∧vX ks n vs' m n'
 | 0,vs,h=>⟨[],vs,rfl,rfl,h⟩
 | k+1,vs,h=>by
  rw[List.replicate_succ,List.cons_append] at h
  simp only[vX,jP] at h
  obtain⟨v,r,rfl,⟨x,rfl,hx⟩,h⟩:=h
  obtain⟨d,vs',h1,rfl,h2⟩:=pR k h
  refine⟨UInt8.ofNat x.toNat :: d,vs',by simp[h1],?_,h2⟩
  rw[sM (qU hx)]
  rfl
theorem IE {s:List UInt8} (h:s.length≤2 ^ 39):Bg s=bU s:=by
 unfold Bg bU
 rw[qW (show kJ (s.length:Int) from ⟨by omega,by omega⟩)]
theorem vM {s:List UInt8} (h:s.length≤2 ^ 39):vL [.str s] []=some (.slc 0 0 1 (bU s).length none,[(0,⟨.own 5,aB (bU s)⟩)],1):=by
 simp[vL,h,IE h]
theorem Og:∀ x∈[((50:FuncId),vL)],dQ Tryz.prog tS x.1 x.2:=by
 intro x hx
 simp only[List.mem_cons,List.not_mem_nil,or_false] at hx
 subst hx
 exact DT
def XU:bG:=dR [(50,vL)] cF
theorem GG:∀ f a m n K,XU f a m n K→aY Tryz.prog tS f a m n K:=bA Og bI
theorem f56 (tag:Int) (ps:List (List UInt8)) (h:Kg tag ps) (cap:Option Nat) (hcap:o5 cap ps.length) :
  Fun Tryz.prog tS 117 [.int .i64 tag,.slc 0 0 1 ps.length cap] [(0,⟨.view,m9 ps⟩)] 1 (.slc 1 0 1 (dV tag ps).length none) [(1,⟨.own 5,aB (dV tag ps)⟩)] 2:=by
 refine aR none XU GG Wd (Nat.le_of_ble_eq_true rfl) (by decide) ?_
 conv in aJ _ _=>(reduce;simp only[aH,UInt8.reduceOfNat,Int.reduceOfNat,Int.reduceNegSucc])
 rw[aQ]
 obtain⟨hp,hT,hk⟩:=h
 have hlT:(dV tag ps).length=1+((ps.map bU).flatten).length:=by simp[dV];omega
 have rS:∀ η,SV.renL η (m9 ps)=m9 ps:=fun η=>Hv η ps
 simp (maxSteps:=1000000) only [XU,reduceCtorEq,Nat.reduceEqDiff,Nat.reduceAdd,eq_self, true_and,List.length_cons,List.length_nil,List.append_nil,List.nil_append,List.take_zero,List.drop_succ_cons,List.drop_nil,Nat.zero_add,gV,cG,cB,aW,b6,cC,cK,↓reduceIte,↓g8,↓fZ,↓J9,↓eG,Opd.ev,Sx.get,put,bQ,fF,aU,aF,SV.cells?,SV.one,Nat.le_refl]
 have e0:[SV.int .u8 (IntKind.u8.wrap tag)]=aB (dV tag (ps.take 0)):=by rw[nL];rfl
 rw[e0,aL]
 have f0:(dV tag (ps.take 0)).length=1:=rfl
 refine bF GG (σ:=Nat) (fun j=>[(6,.int .i64 (j:Int)),(5,.slc 1 0 1 (dV tag (ps.take j)).length none),(1,.slc 0 0 1 ps.length cap)])
  (fun j=>[(1,⟨.own 5,aB (dV tag (ps.take j))⟩),(0,⟨.view,m9 ps⟩)]) (fun _=>2) (fun j=>j≤ps.length) (fun j=>ps.length - j) 0 ?_ (Nat.zero_le _) ?_
 ·exact⟨[(0,0),(1,0)],by simp only[rS,dS,aK,aM,aG,bB,b7,rd,Option.getD_some,List.getElem?_cons_zero,List.getElem?_cons_succ,List.length_cons,List.length_nil,Nat.zero_add,Nat.add_zero,Nat.reduceAdd,Nat.reduceSub,Nat.reduceLT,Nat.reduceLeDiff,↓reduceIte,Kind.isOwn,List.take_succ_cons,List.take_zero,List.nil_append,and_self,true_and,exists_eq_left',Option.some.injEq,List.drop_zero,List.take_length,Nat.le_refl,ne_eq,not_false_eq_true,implies_true,List.not_mem_nil,false_imp_iff,Bool.false_or,Bool.true_or,forall_const,List.mem_cons,or_false,forall_eq,Nat.succ_ne_self,aC],by simp only[dI,eX,bB,SV.ren,Option.getD_some,List.getElem?_cons_zero,List.getElem?_cons_succ,List.length_cons,List.length_nil,Nat.zero_add,Nat.add_zero,Nat.reduceAdd,Nat.reduceSub,Nat.reduceEqDiff,↓reduceIte,List.take_zero,and_self,and_true,Option.some.injEq,Nat.succ_ne_self] <;> exact⟨rfl,rfl⟩⟩
 ·intro j hj
  have hln:=AU ps
  by_cases hj2:j < ps.length
  ·obtain⟨p,hpj⟩:∃ p,ps[j]?=some p:=⟨ps[j],by simp[hj2]⟩
   have hpm:p∈ps:=List.mem_of_getElem? hpj
   have gp:=Hw hpj
   have c1:(j:Int) < (ps.length:Int):=by omega
   have c2:(0:Int)≤(j:Int):=by omega
   have v4:IntKind.i64.wrap ((j:Int)+1)=((j+1:Nat):Int):=by rw[aD (by omega) (by omega)];omega
   have gb:=vM (hp p hpm)
   have hst:=Hx (tag:=tag) hpj
   have hle:(dV tag (ps.take (j+1))).length≤(dV tag ps).length:=by
    have:=Kf (ps:=ps) (j:=j+1)
    simp only[dV,List.length_cons]
    omega
   have hle2:(dV tag (ps.take j)).length+(bU p).length=(dV tag (ps.take (j+1))).length:=by rw[← hst];simp
   have tb:=a9 (bU p)
   have ta:=a9 (dV tag (ps.take j))
   have ap:aB (dV tag (ps.take j))++aB (bU p)=aB (dV tag (ps.take (j+1))):=by rw[cE,hst]
   simp (maxSteps:=1000000) only [hln,c1,c2,v4,gp,↓gb,tb,ta,ap,hle2,g9,iA,reduceCtorEq,Nat.reduceEqDiff,Nat.reduceAdd,eq_self,decide_true, true_and,List.length_nil,List.append_nil,List.nil_append,List.cons_append,List.drop_zero,List.map_cons,List.map_nil,Nat.zero_add,Nat.add_zero,dN,cG,↓mU,cB,aW,eK,b6,cC,dB,cK,mX,↓reduceIte,↓mL,↓DA,↓o3,↓fZ,↓gL,↓i6,↓sJ,↓eJ,↓iO,↓gK,↓cL,Opd.ev,Sx.get,put,bQ,fF,aU,rd,rm,↓sL,j5,hH,dT,CF,bB,SV.ren,cQ,bZ,qM,Kind.isOwn,aC,List.getElem?_nil,Option.getD_none,Nat.sub_zero,Nat.le_refl,aA,Int.toNat_natCast,Nat.mul_one]
   exact⟨hj2,by omega,by omega,j+1,⟨[(0,0),(3,0)],by simp only[rS,dS,aK,aM,aG,bB,b7,rd,Option.getD_some,List.getElem?_cons_zero,List.getElem?_cons_succ,List.length_cons,List.length_nil,Nat.zero_add,Nat.add_zero,Nat.reduceAdd,Nat.reduceSub,Nat.reduceLT,Nat.reduceLeDiff,↓reduceIte,Kind.isOwn,List.take_succ_cons,List.take_zero,List.nil_append,and_self,true_and,exists_eq_left',Option.some.injEq,List.drop_zero,List.take_length,Nat.le_refl,ne_eq,not_false_eq_true,implies_true,List.not_mem_nil,false_imp_iff,Bool.false_or,Bool.true_or,forall_const,reduceCtorEq,List.mem_cons,or_false,forall_eq,aC],by simp[dI,eX,bB,SV.ren,Option.getD_some,List.length_cons,List.length_nil,Nat.zero_add,Nat.add_zero,Nat.reduceAdd,Nat.reduceEqDiff,Nat.reduceLeDiff,↓reduceIte,and_self,Nat.succ_ne_self]⟩,by omega,by omega⟩
  ·obtain rfl:j=ps.length:=by omega
   have e1:ps.take ps.length=ps:=List.take_length
   rw[e1]
   have c3:decide ((ps.length:Int) < (ps.length:Int))=false:=by simp
   simp (maxSteps:=1000000) only [c3,nJ,Nat.reduceEqDiff,eq_self, true_and,Nat.add_zero,dN,cG,↓nU,cB,aW,b6,cC,dB,i5,iW,oC,oD,vH,↓reduceIte,↓fZ,↓gL,↓sJ,↓eJ,↓cL,↓dY,Opd.ev,Sx.get,put,bQ,fF,aU,dX,bB,SV.ren]
   exact⟨[(0,0),(1,0)],by simp[dS,aK,aM,aG,bB,b7,rd,Option.getD_some,List.length_cons,List.length_nil,Nat.zero_add,Nat.add_zero,Nat.reduceAdd,Nat.reduceLeDiff,↓reduceIte,Kind.isOwn,List.take_succ_cons,List.take_zero,List.nil_append,and_self,true_and,exists_eq_left',Option.some.injEq,ne_eq,implies_true,List.not_mem_nil,Bool.true_or,forall_const,aC],by simp[Option.getD_some,List.length_cons,List.length_nil,Nat.zero_add,Nat.add_zero,Nat.reduceAdd,Nat.reduceLeDiff]⟩
def Qs:GS
 | [.int .i64 tag,.slc 0 0 1 len cap],[(0,⟨.view,cells⟩)]=>match xA cells with
  | some ps=>match jO cap ps.length with
   | true=>if len=ps.length∧Kg tag ps then some (.slc 1 0 1 (dV tag ps).length none,[(1,⟨.own 5,aB (dV tag ps)⟩)],2) else none
   | _=>none
  | none=>none
 | _,_=>none
theorem Oh:dQ Tryz.prog tS 117 Qs:=by
 intro a0 m0 r m1 n1 h
 unfold Qs at h
 split at h
 ·split at h
  ·rename_i ps hps
   split at h
   ·rename_i hcap
    split at h
    ·rename_i hc
     cases h
     obtain⟨rfl,h1⟩:=hc
     rw[vK hps]
     exact⟨f56 _ ps h1 _ (nM hcap),by simp[dA]⟩
    ·cases h
   ·cases h
  ·cases h
 ·cases h
def yH (X:List UInt8) (i:Nat):List SV:=aB (X.take i)++List.replicate (16 - i) (.int .u8 0)
theorem Rk {X:List UInt8} {i:Nat} (hX:X.length=32) (h:i≤16):(yH X i).length=16:=by simp[yH,aA,hX];omega
theorem CL {X:List UInt8}:yH X 16=aB (X.take 16):=by simp[yH]
theorem CM {X:List UInt8} {i:Nat} {x:UInt8} (hX:X[i]?=some x) (h:i < 16):aF (yH X i) i [SV.int .u8 (x.toNat:Int)]=yH X (i+1):=by
 unfold yH
 rw[show (16 - i)=(16 - (i+1))+1 by omega,List.replicate_succ]
 have hi:i < X.length:=by
  rw[List.getElem?_eq_some_iff] at hX
  exact hX.1
 have:=fG (a:=aB (X.take i)) (b:=[.int .u8 0]) (c:=List.replicate (16 - (i+1)) (.int .u8 0)) (k:=i) (d:=[SV.byte x]) (by simp[aA];omega) rfl
 simp only[List.cons_append,List.nil_append] at this
 rw[qS,this,List.take_add_one,hX,← cE,List.append_assoc]
 rfl
theorem GH (η:Nat→Nat × Nat) (X:List UInt8) (i:Nat):SV.renL η (yH X i)=yH X i:=by
 refine SV.flatL_ren η _ ?_
 unfold yH
 refine qF (aX _) ?_
 generalize 16 - i=k
 induction k with
 | zero=>rfl
 | succ k ih=>rw[List.replicate_succ];simp only[SV.flatL,SV.flat,Bool.true_and];exact ih
def Kl:List (FuncId × GS):=[(146,Ez)]
theorem Oi:∀ x∈Kl,dQ Tryz.prog aO x.1 x.2:=by
 intro x hx
 simp only[Kl,List.mem_cons,List.not_mem_nil,or_false] at hx
 subst hx
 exact IA
def Zs:bG:=dR Kl cF
theorem Oj:∀ f a m n K,Zs f a m n K→aY Tryz.prog aO f a m n K:=bA Oi bI
theorem GI {cap:Option Nat} {n:Nat} (h:o5 cap n):jO cap n=true:=by
 cases cap with
 | none=>rfl
 | some c=>exact Nat.ble_eq_true_of_le (h c rfl)
theorem DU {m:List UInt8} {cap:Option Nat} (hm:m.length≤2 ^ 37) (hcap:o5 cap m.length):Ez [.slc 0 0 1 m.length cap] [(0,⟨.view,aB m⟩)]=some (.agg (aB (jR m)),[],1):=by
 unfold Ez
 simp only[aT,GI hcap,hm,and_self,if_true]
theorem f55 (m:List UInt8) (hm:m.length≤2 ^ 37) (cap:Option Nat) (hcap:o5 cap m.length) :
  Fun Tryz.prog aO 116 [.slc 0 0 1 m.length cap] [(0,⟨.view,aB m⟩)] 1 (.agg (aB ((jR m).take 16))) [] 1:=by
 refine nN none Zs Oj Wc (Nat.le_of_ble_eq_true rfl) (fun η=>by simp only[SV.ren,aC]) ?_
 conv in aJ _ _=>(reduce;simp only[aH,seval])
 rw[aQ]
 have gs:=DU hm hcap
 have tm:=a9 m
 have hX:=jS m
 generalize jR m=X at *
 have hxl:(aB X).length=32:=by rw[aA,hX]
 have rX:∀ η,SV.renL η (aB X)=aB X:=fun η=>aC η X
 simp only[Zs,Kl,↓gs,tm,hxl,bC,BC,↓PC,seval]
 rw[aL]
 have rz:∀ η,SV.renL η wZ=wZ:=fun η=>SV.flatL_ren η wZ rfl
 have rC:∀ η i,SV.renL η (yH X i)=yH X i:=fun η i=>GH η X i
 have sX:∀ z:List SV,z.length=32→aF z 0 (aB X)=aB X:=fun z hz=>fN (by rw[hxl,hz])
 rw[sX]
 rotate_left
 ·rfl
 refine bF Oj (σ:=Nat) (fun i=>[(5,.int .i64 (i:Int)),(4,.ptr 3 0),(3,.ptr 2 0),(2,.ptr 1 0)]) (fun i=>[(3,⟨.own 24,yH X i⟩),(2,⟨.own 141,aB X⟩),(1,⟨.own 24,wZ⟩)]) (fun _=>4)
  (fun i=>i≤16) (fun i=>16 - i) 0 ?_ (Nat.zero_le _) ?_
 ·exact⟨[(0,0),(1,0),(2,0),(3,0)],by simp only[rX,rC,rz,BC,seval] <;> exact⟨rfl,rfl⟩,by simp[BC,seval]⟩
 ·intro i hi
  have lC:=Rk hX hi
  by_cases uT:i < 16
  ·obtain⟨x,hx⟩:∃ x,X[i]?=some x:=⟨X[i],by simp⟩
   have gx:=fL hx
   have c1:(i:Int) < 16:=by omega
   have c2:(0:Int)≤(i:Int):=by omega
   have c3:(i:Int) < 32:=by omega
   have v4:IntKind.i64.wrap ((i:Int)+1)=((i+1:Nat):Int):=by rw[aD (by omega) (by omega)];omega
   have op:=CM hx uT
   simp only[c1,c2,c3,gx,v4,lC,op,bC,BC,↓PC,seval]
   exact⟨by omega,i+1,⟨[(0,0),(1,0),(2,0),(3,0)],by simp only[rX,rC,rz,BC,seval],by simp[BC,seval]⟩,by omega,by omega⟩
  ·obtain rfl:i=16:=by omega
   simp only[lC,bC,BC,↓PC,seval]
   have tC:List.take 16 (yH X 16)=yH X 16:=List.take_of_length_le (by omega)
   have sC:aF wZ 0 (yH X 16)=yH X 16:=fN (by rw[lC];rfl)
   rw[tC,sC,tC]
   exact⟨lC,by decide,by omega,CL⟩
def DV:GS
 | [.slc 0 0 1 len cap],[(0,⟨.view,cells⟩)]=>match rQ cells with
  | some m=>match jO cap m.length with
   | true=>if len=m.length∧m.length≤2 ^ 37 then some (.agg (aB ((jR m).take 16)),[],1) else none
   | _=>none
  | none=>none
 | _,_=>none
theorem M3 {m:List UInt8} {cap:Option Nat} (hm:m.length≤2 ^ 37) (hcap:o5 cap m.length):DV [.slc 0 0 1 m.length cap] [(0,⟨.view,aB m⟩)]=some (.agg (aB ((jR m).take 16)),[],1):=by
 unfold DV
 simp only[aT,GI hcap,hm,and_self,if_true]
theorem M4:dQ Tryz.prog aO 116 DV:=by
 intro a0 m0 r m1 n1 h
 unfold DV at h
 split at h
 ·split at h
  ·rename_i m hm
   split at h
   ·rename_i hcap
    split at h
    ·rename_i hc
     cases h
     obtain⟨rfl,h2⟩:=hc
     rw[b8 hm]
     exact⟨f55 m h2 _ (nM hcap),by simp[dA]⟩
    ·cases h
   ·cases h
  ·cases h
 ·cases h
theorem U8 {tag:Int} {ps:List (List UInt8)} {cap:Option Nat} (h:Kg tag ps) (hcap:o5 cap ps.length):Qs [.int .i64 tag,.slc 0 0 1 ps.length cap] [(0,⟨.view,m9 ps⟩)]=some (.slc 1 0 1 (dV tag ps).length none,[(1,⟨.own 5,aB (dV tag ps)⟩)],2):=by
 unfold Qs
 simp only[mN,GI hcap,h,and_self,if_true]
def Km:List (FuncId × GS):=[(116,DV),(117,Qs)]
theorem Ok:∀ x∈Km,dQ Tryz.prog aO x.1 x.2:=by
 intro x hx
 simp only[Km,List.mem_cons,List.not_mem_nil,or_false] at hx
 rcases hx with rfl|rfl
 ·exact M4
 ·exact Oh
def Zt:bG:=dR Km cF
theorem U9:∀ f a m n K,Zt f a m n K→aY Tryz.prog aO f a m n K:=bA Ok bI
theorem f40 (tag:Int) (ps:List (List UInt8)) (h:Kg tag ps) (cap:Option Nat) (hcap:o5 cap ps.length) :
  Fun Tryz.prog aO 76 [.int .i64 tag,.slc 0 0 1 ps.length cap] [(0,⟨.view,m9 ps⟩)] 1 (.agg (aB (dE tag ps))) [] 1:=by
 refine nN none Zt U9 Z8 (Nat.le_of_ble_eq_true rfl) (fun η=>by simp only[SV.ren,aC]) ?_
 conv in aJ _ _=>(reduce;simp only[aH,seval])
 rw[aQ]
 have g1:=U8 h hcap
 have ts:List.take ps.length (m9 ps)=m9 ps:=List.take_of_length_le (by rw[AU];omega)
 have g2:=M3 (m:=dV tag ps) (cap:=none) (by have:=h.2.1;omega) (fun c hc=>by cases hc)
 have tm:=a9 (dV tag ps)
 have hln:=AU ps
 have hfs:=BH ps
 have e:(jR (dV tag ps)).take 16=dE tag ps:=rfl
 have l16:(dE tag ps).length=16:=bK tag ps
 rw[e] at g2
 simp only[Zt,Km,↓g1,↓g2,ts,tm,hln,hfs,l16,bC,BC,↓PC,seval]
 have lO:(aB (dE tag ps)).length=16:=by rw[aA,l16]
 have sO:∀ z:List SV,z.length=16→aF z 0 (aB (dE tag ps))=aB (dE tag ps):=fun z hz=>fN (by rw[lO,hz])
 rw[sO]
 ·exact⟨by omega,List.take_of_length_le (by omega)⟩
 ·rfl
def Bv:GS
 | [.int .i64 tag,.slc 0 0 1 len cap],[(0,⟨.view,cells⟩)]=>match xA cells with
  | some ps=>match jO cap ps.length with
   | true=>if len=ps.length∧Kg tag ps then some (.agg (aB (dE tag ps)),[],1) else none
   | _=>none
  | none=>none
 | _,_=>none
theorem CN:dQ Tryz.prog aO 76 Bv:=by
 intro a0 m0 r m1 n1 h
 unfold Bv at h
 split at h
 ·split at h
  ·rename_i ps hps
   split at h
   ·rename_i hcap
    split at h
    ·rename_i hc
     cases h
     obtain⟨rfl,h1⟩:=hc
     rw[vK hps]
     exact⟨f40 _ ps h1 _ (nM hcap),by simp[dA]⟩
    ·cases h
   ·cases h
  ·cases h
 ·cases h
theorem Zu (d:List UInt8) (hd:d.length=32):Fun Tryz.prog tS 154 [.agg (aB d)] [] 0 (.str d) [] 0:=by
 refine aR none cF bI XB (Nat.le_of_ble_eq_true rfl) (by decide) ?_
 conv in aJ _ _=>(reduce;simp only[aH,UInt8.reduceOfNat,Int.reduceOfNat,Int.reduceNegSucc])
 rw[aQ]
 simp (maxSteps:=1000000) only [reduceCtorEq,Nat.reduceEqDiff,eq_self,Nat.zero_add,gV,cG,cB,aW,b6,cC,cK,↓reduceIte,↓B6,↓fZ,Opd.ev,Sx.get,put,bQ,fF,aU,SV.cells?]
 rw[aL]
 refine bF bI (σ:=Nat) (fun i=>[(4,.int .i64 (i:Int)),(3,AN 1 1 i),(1,.ptr 0 0)])
  (fun i=>v7 1 5 (aB (d.take i)) [(0,⟨.own 141,aB d⟩)] i) (fun i=>s9 1 i) (fun i=>i≤32) (fun i=>32 - i) 0 ?_ (Nat.zero_le _) ?_
 ·exact⟨[(0,0)],by simp[dS,aK,aM,aG,bB,b7,rd,Option.getD_some,List.length_cons,List.length_nil,Nat.zero_add,Nat.add_zero,↓reduceIte,Kind.isOwn,List.take_zero,and_self,true_and,exists_eq_left',Option.some.injEq,ne_eq,implies_true,List.not_mem_nil,Bool.true_or,forall_const,aC,m5,m6],by simp[dI,eX,bB,SV.ren,Option.getD_some,List.length_cons,List.length_nil,Nat.zero_add,Nat.add_zero,Nat.reduceEqDiff,↓reduceIte,and_self,Nat.succ_ne_self,mZ]⟩
 ·intro i hi
  by_cases h:i < 32
  ·have c1:(i:Int) < 32:=by omega
   have c2:(0:Int)≤(i:Int):=by omega
   have wi:IntKind.i64.wrap ((i:Int)+1)=((i+1:Nat):Int):=by rw[aD (by omega) (by omega)];omega
   obtain⟨x,hx⟩:∃ x,d[i]?=some x:=⟨_,List.getElem?_eq_getElem (by omega)⟩
   have gx:=fL hx
   have ht:aB (d.take i)++[SV.byte x]=aB (d.take (i+1)):=by
    rw[iT,List.take_add_one,hx];rfl
   have hlt:(aB (d.take i)).length=i:=by rw[aA];simp;omega
   cases i with
   | zero=>
    simp (maxSteps:=1000000) only [gx,iA,Nat.reduceEqDiff,Nat.reduceAdd,Int.reduceToNat,Int.reduceLT,Int.reduceLE,Int.reduceAdd,Int.reduceNeg,wrap64,eq_self,decide_true,Int.cast_ofNat_Int, true_and,List.length_cons,List.length_nil,List.append_nil,List.nil_append,List.take_succ_cons,List.take_zero,List.drop_succ_cons,List.drop_zero,List.take_nil,List.drop_nil,Nat.zero_add,Nat.add_zero,dN,cG,↓mU,cB,aW,eK,b6,cC,dB,cK,mX,↓reduceIte,↓g8,↓mL,↓o3,↓fZ,↓wS,↓gL,↓sI,↓eJ,↓iO,↓gK,↓cL,↓eG,Opd.ev,Sx.get,put,bQ,fF,aU,rd,aF,SV.cells?,SV.one,Nat.sub_zero,Nat.le_refl,mZ,m5,m6,Nat.mul_one,Int.cast_ofNat_Int]
    rw[qS]
    have ht:aB (d.take (0+1))=aB [x]:=by rw[← ht];rfl
    exact⟨by omega,by omega,0+1,⟨[(0,0),(2,0)],by simp only[ht,dS,aK,aM,aG,bB,b7,rd,Option.getD_some,List.getElem?_cons_zero,List.getElem?_cons_succ,List.length_cons,List.length_nil,Nat.zero_add,Nat.add_zero,Nat.reduceAdd,Nat.reduceSub,Nat.reduceLT,Nat.reduceLeDiff,↓reduceIte,Kind.isOwn,List.take_zero,and_self,true_and,exists_eq_left',Option.some.injEq,ne_eq,not_false_eq_true,implies_true,List.not_mem_nil,false_imp_iff,Bool.true_or,forall_const,reduceCtorEq,List.mem_cons,or_false,forall_eq,Nat.succ_ne_self,o4,aC,lH,kI],by simp only[dI,eX,bB,SV.ren,Option.getD_some,List.getElem?_cons_zero,List.getElem?_cons_succ,List.length_cons,List.length_nil,Nat.zero_add,Nat.add_zero,Nat.reduceAdd,Nat.reduceSub,Nat.reduceEqDiff,↓reduceIte,and_self,and_true,Option.some.injEq,Nat.succ_ne_self,lG];trivial⟩,by omega,by omega⟩
   | succ i=>
    simp (maxSteps:=1000000) only [c1,c2,wi,gx,iA,reduceCtorEq,Nat.reduceEqDiff,Nat.reduceAdd,eq_self,decide_true,Int.cast_ofNat_Int, true_and,List.length_cons,List.length_nil,List.append_nil,List.nil_append,List.take_succ_cons,List.take_zero,List.drop_succ_cons,List.drop_zero,List.take_nil,List.drop_nil,Nat.zero_add,dN,cG,↓mU,cB,aW,eK,b6,cC,dB,cK,mX,↓reduceIte,↓g8,↓mL,↓o3,↓fZ,↓wS,↓gL,↓sI,↓eJ,↓iO,↓gK,↓cL,↓eG,Opd.ev,Sx.get,put,bQ,fF,aU,rd,rm,aF,SV.cells?,SV.one,Nat.le_refl,lG,lH,kI,aA,Int.toNat_natCast,Nat.mul_one,Int.cast_ofNat_Int]
    rw[qS]
    have e0:List.take (i+1) (aB (List.take (i+1) d))=aB (List.take (i+1) d):=List.take_of_length_le (by omega)
    rw[e0,ht]
    exact⟨by omega,by omega,by rw[aA] at hlt;omega,i+1+1,⟨[(0,0),(3,0)],by simp only[dS,aK,aM,aG,bB,b7,rd,Option.getD_some,List.getElem?_cons_zero,List.getElem?_cons_succ,List.length_cons,List.length_nil,Nat.zero_add,Nat.add_zero,Nat.reduceAdd,Nat.reduceSub,Nat.reduceLT,Nat.reduceLeDiff,↓reduceIte,Kind.isOwn,List.take_zero,and_self,true_and,exists_eq_left',Option.some.injEq,ne_eq,not_false_eq_true,implies_true,List.not_mem_nil,false_imp_iff,Bool.true_or,forall_const,reduceCtorEq,List.mem_cons,or_false,forall_eq,o4,aC,lH,kI],by simp only[dI,eX,bB,SV.ren,Option.getD_some,List.getElem?_cons_zero,List.getElem?_cons_succ,List.length_cons,List.length_nil,Nat.zero_add,Nat.add_zero,Nat.reduceAdd,Nat.reduceSub,Nat.reduceEqDiff,↓reduceIte,and_self,Nat.succ_ne_self,lG]⟩,by omega,by omega⟩
  ·obtain rfl:i=32:=by omega
   simp (maxSteps:=1000000) only [nJ,Nat.reduceEqDiff,Nat.reduceAdd,Int.reduceLT,eq_self,decide_false,Int.cast_ofNat_Int, true_and,List.drop_zero,Nat.zero_add,dN,cG,↓nU,cB,aW,b6,cC,dB,i5,iW,oC,oD,vH,↓reduceIte,↓DB,↓fZ,↓gL,↓eJ,↓gK,↓cL,↓dY,Opd.ev,Sx.get,put,bQ,fF,aU,rd,dX,SV.ren,lG,lH,kI,aA,Nat.mul_one,Int.cast_ofNat_Int]
   have e:List.take 32 d=d:=List.take_of_length_le (by omega)
   have e1:List.take 32 (aB d)=aB d:=List.take_of_length_le (by rw[aA];omega)
   rw[e,e1,bR]
   exact⟨by omega,dD _,[],by simp[dS,aK,aM,aG,b7,List.length_nil,List.take_nil,and_self],rfl⟩
def Kn:List SV→Option SV
 | [.agg cells]=>match rQ cells with
  | some d=>if d.length=32 then some (.str d) else none
  | none=>none
 | _=>none
theorem IF {d:List UInt8} (hd:d.length=32):Kn [.agg (aB d)]=some (.str d):=by
 unfold Kn
 simp only[aT]
 rw[if_pos hd]
def M5 (a w:Int):UInt8:=kF ((BitVec.ofInt 8 a ^^^ BitVec.ofInt 8 w).toNat:Int)
theorem AZ (a w:Int):SV.int .u8 (dL .xor .u8 a w)=SV.byte (M5 a w):=nL _
def Bi (key:List UInt8) (w:Int) (i:Nat):UInt8:=M5 ((key.getD i 0).toNat:Int) w
def fR (key:List UInt8) (w:Int) (n:Nat):List UInt8:=(List.range n).map (Bi key w)
theorem kK (key:List UInt8) (w:Int) (n:Nat):(fR key w n).length=n:=by simp[fR]
theorem FF (key:List UInt8) (w:Int) (n:Nat):aB (fR key w n)++[SV.byte (Bi key w n)]=aB (fR key w (n+1)):=by
 rw[iT];congr 1;simp[fR,List.range_succ]
theorem Zv (key:List UInt8) (w:Int) (hk:key.length≤64):Fun Tryz.prog tS 153 [.str key,.int .u8 w] [] 0 (.slc 0 0 1 64 none) [(0,⟨.own 5,aB (fR key w 64)⟩)] 1:=by
 refine aR none cF bI XA (Nat.le_of_ble_eq_true rfl) (by decide) ?_
 conv in aJ _ _=>(reduce;simp only[aH,UInt8.reduceOfNat,Int.reduceOfNat,Int.reduceNegSucc])
 rw[aQ]
 have c0:¬ (key.length:Int) > 64:=by omega
 simp (maxSteps:=1000000) only [c0,reduceCtorEq,Nat.reduceEqDiff,eq_self,decide_false, true_and,Nat.zero_add,gV,cG,↓nU,cB,aW,eK,b6,cC,dB,cK,↓reduceIte,↓fZ,↓gL,↓sJ,↓eJ,↓cL,Opd.ev,Sx.get,put,bQ,fF,aU]
 rw[aL]
 refine bF bI (σ:=Nat) (fun i=>[(7,.int .i64 (i:Int)),(6,AN 0 1 i),(5,.str key),(1,.int .u8 w)])
  (fun i=>v7 0 5 (aB (fR key w i)) [] i) (fun i=>s9 0 i) (fun i=>i≤64) (fun i=>64 - i) 0 ?_ (Nat.zero_le _) ?_
 ·exact⟨[],by simp[dS,aK,aM,aG,b7,List.length_nil,List.take_nil,and_self,m5,m6],by simp[dI,eX,SV.ren,Nat.reduceEqDiff,↓reduceIte,and_self,Nat.succ_ne_self,mZ]⟩
 ·intro i hi
  by_cases h:i < 64
  ·have c1:(i:Int) < 64:=by omega
   have c2:(0:Int)≤(i:Int):=by omega
   have wi:IntKind.i64.wrap ((i:Int)+1)=((i+1:Nat):Int):=by rw[aD (by omega) (by omega)];omega
   have ht:=FF key w i
   have hln:=kK key w i
   by_cases hik:i < key.length
   ·have c3:(i:Int) < (key.length:Int):=by omega
    obtain⟨x,hx⟩:∃ x,key[i]?=some x:=⟨_,List.getElem?_eq_getElem hik⟩
    have hp:Bi key w i=M5 (x.toNat:Int) w:=by unfold Bi;rw[List.getD_eq_getElem?_getD,hx];rfl
    rw[hp] at ht
    cases i with
    | zero=>
     have c3':(0:Int) < (key.length:Int):=c3
     have ht:[SV.byte (M5 (x.toNat:Int) w)]=aB (fR key w (0+1)):=ht
     simp (maxSteps:=1000000) only [c3',hx,SV.byte,AZ,iA,Nat.reduceEqDiff,Nat.reduceAdd,Int.reduceToNat,Int.reduceLT,Int.reduceLE,Int.reduceAdd,Int.reduceNeg,wrap64,eq_self,decide_true,Int.cast_ofNat_Int, true_and,List.length_cons,List.length_nil,List.append_nil,List.nil_append,List.take_succ_cons,List.take_zero,List.drop_succ_cons,List.drop_zero,List.take_nil,List.drop_nil,Nat.zero_add,dN,cG,↓mU,cB,aW,eK,b6,cC,dB,cK,mX,↓reduceIte,↓g8,↓Fl,↓o3,↓fZ,↓gL,↓sJ,↓eJ,↓iO,↓gK,↓cL,↓eG,Opd.ev,Sx.get,put,bQ,fF,aU,rd,aF,SV.cells?,SV.one,Nat.sub_zero,Nat.le_refl,mZ,m5,m6,Nat.mul_one,Int.cast_ofNat_Int]
     rw[qS,ht]
     exact⟨by omega,by omega,0+1,⟨[(1,0)],by simp only[dS,aK,aM,aG,bB,b7,rd,Option.getD_some,List.getElem?_cons_zero,List.length_cons,List.length_nil,Nat.zero_add,Nat.add_zero,Nat.reduceSub,Nat.reduceLT,Nat.reduceLeDiff,↓reduceIte,Kind.isOwn,List.take_zero,and_self,true_and,exists_eq_left',Option.some.injEq,ne_eq,implies_true,List.not_mem_nil,false_imp_iff,Bool.true_or,forall_const,aC,lH,kI],by simp only[dI,eX,bB,SV.ren,Option.getD_some,List.getElem?_cons_zero,List.length_cons,List.length_nil,Nat.zero_add,Nat.add_zero,Nat.reduceSub,Nat.reduceEqDiff,↓reduceIte,and_self,and_true,Option.some.injEq,Nat.succ_ne_self,lG];trivial⟩,by omega,by omega⟩
    | succ i=>
     simp (maxSteps:=1000000) only [c1,c2,c3,wi,hx,SV.byte,AZ,iA,reduceCtorEq,Nat.reduceEqDiff,Nat.reduceAdd,eq_self,decide_true, true_and,List.length_cons,List.length_nil,List.append_nil,List.nil_append,List.take_succ_cons,List.take_zero,List.drop_succ_cons,List.drop_zero,List.take_nil,List.drop_nil,Nat.zero_add,dN,cG,↓mU,cB,aW,eK,b6,cC,dB,cK,mX,↓reduceIte,↓g8,↓Fl,↓o3,↓fZ,↓gL,↓sJ,↓eJ,↓iO,↓gK,↓cL,↓eG,Opd.ev,Sx.get,put,bQ,fF,aU,rd,rm,aF,SV.cells?,SV.one,Nat.le_refl,lG,lH,kI,aA,Int.toNat_natCast,Nat.mul_one]
     have e0:List.take (i+1) (aB (fR key w (i+1)))=aB (fR key w (i+1)):=List.take_of_length_le (by rw[aA,hln];exact Nat.le_refl _)
     rw[qS,e0,ht]
     exact⟨by omega,by omega,by omega,i+1+1,⟨[(2,0)],by simp only[dS,aK,aM,aG,bB,b7,rd,Option.getD_some,List.getElem?_cons_zero,List.length_cons,List.length_nil,Nat.zero_add,Nat.add_zero,Nat.reduceSub,Nat.reduceLT,Nat.reduceLeDiff,↓reduceIte,Kind.isOwn,List.take_zero,and_self,true_and,exists_eq_left',Option.some.injEq,ne_eq,implies_true,List.not_mem_nil,false_imp_iff,Bool.true_or,forall_const,o4,aC,lH,kI],by simp only[dI,eX,bB,SV.ren,Option.getD_some,List.getElem?_cons_zero,List.length_cons,List.length_nil,Nat.zero_add,Nat.add_zero,Nat.reduceSub,Nat.reduceEqDiff,↓reduceIte,and_self,Nat.succ_ne_self,lG]⟩,by omega,by omega⟩
   ·have c3:¬ (i:Int) < (key.length:Int):=by omega
    have hp:Bi key w i=M5 0 w:=by unfold Bi;rw[List.getD_eq_getElem?_getD,List.getElem?_eq_none (by omega)];rfl
    rw[hp] at ht
    cases i with
    | zero=>
     have c3':¬ (0:Int) < (key.length:Int):=c3
     have ht:[SV.byte (M5 0 w)]=aB (fR key w (0+1)):=ht
     simp (maxSteps:=1000000) only [c3',SV.byte,AZ,iA,Nat.reduceEqDiff,Nat.reduceAdd,Int.reduceLT,Int.reduceLE,Int.reduceAdd,Int.reduceNeg,wrap64,eq_self,decide_true,decide_false,Int.cast_ofNat_Int, true_and,List.length_cons,List.length_nil,List.append_nil,List.nil_append,List.take_succ_cons,List.take_zero,List.drop_succ_cons,List.drop_zero,List.take_nil,List.drop_nil,Nat.zero_add,dN,cG,↓mU,↓nU,cB,aW,eK,b6,cC,dB,cK,mX,↓reduceIte,↓g8,↓o3,↓fZ,↓gL,↓sJ,↓eJ,↓iO,↓gK,↓cL,↓eG,Opd.ev,Sx.get,put,bQ,fF,aU,rd,aF,SV.cells?,SV.one,Nat.sub_zero,Nat.le_refl,mZ,m5,m6,Nat.mul_one,Int.cast_ofNat_Int]
     rw[qS,ht]
     exact⟨by omega,by omega,0+1,⟨[(1,0)],by simp only[dS,aK,aM,aG,bB,b7,rd,Option.getD_some,List.getElem?_cons_zero,List.length_cons,List.length_nil,Nat.zero_add,Nat.add_zero,Nat.reduceSub,Nat.reduceLT,Nat.reduceLeDiff,↓reduceIte,Kind.isOwn,List.take_zero,and_self,true_and,exists_eq_left',Option.some.injEq,ne_eq,implies_true,List.not_mem_nil,false_imp_iff,Bool.true_or,forall_const,aC,lH,kI],by simp only[dI,eX,bB,SV.ren,Option.getD_some,List.getElem?_cons_zero,List.length_cons,List.length_nil,Nat.zero_add,Nat.add_zero,Nat.reduceSub,Nat.reduceEqDiff,↓reduceIte,and_self,and_true,Option.some.injEq,Nat.succ_ne_self,lG];trivial⟩,by omega,by omega⟩
    | succ i=>
     simp (maxSteps:=1000000) only [c1,c3,wi,SV.byte,AZ,iA,reduceCtorEq,Nat.reduceEqDiff,Nat.reduceAdd,eq_self,decide_true,decide_false, true_and,List.length_cons,List.length_nil,List.append_nil,List.nil_append,List.take_succ_cons,List.take_zero,List.drop_succ_cons,List.drop_zero,List.take_nil,List.drop_nil,Nat.zero_add,dN,cG,↓mU,↓nU,cB,aW,eK,b6,cC,dB,cK,mX,↓reduceIte,↓g8,↓o3,↓fZ,↓gL,↓sJ,↓eJ,↓iO,↓gK,↓cL,↓eG,Opd.ev,Sx.get,put,bQ,fF,aU,rd,rm,aF,SV.cells?,SV.one,Nat.le_refl,lG,lH,kI,aA,Nat.mul_one]
     have e0:List.take (i+1) (aB (fR key w (i+1)))=aB (fR key w (i+1)):=List.take_of_length_le (by rw[aA,hln];exact Nat.le_refl _)
     rw[qS,e0,ht]
     exact⟨by omega,by omega,by omega,i+1+1,⟨[(2,0)],by simp only[dS,aK,aM,aG,bB,b7,rd,Option.getD_some,List.getElem?_cons_zero,List.length_cons,List.length_nil,Nat.zero_add,Nat.add_zero,Nat.reduceSub,Nat.reduceLT,Nat.reduceLeDiff,↓reduceIte,Kind.isOwn,List.take_zero,and_self,true_and,exists_eq_left',Option.some.injEq,ne_eq,implies_true,List.not_mem_nil,false_imp_iff,Bool.true_or,forall_const,o4,aC,lH,kI],by simp only[dI,eX,bB,SV.ren,Option.getD_some,List.getElem?_cons_zero,List.length_cons,List.length_nil,Nat.zero_add,Nat.add_zero,Nat.reduceSub,Nat.reduceEqDiff,↓reduceIte,and_self,Nat.succ_ne_self,lG]⟩,by omega,by omega⟩
  ·obtain rfl:i=64:=by omega
   simp (maxSteps:=1000000) only [nJ,Nat.reduceEqDiff,Nat.reduceAdd,Int.reduceLT,eq_self,decide_false,Int.cast_ofNat_Int, true_and,Nat.zero_add,Nat.add_zero,dN,cG,↓nU,cB,aW,b6,cC,dB,i5,iW,oC,oD,vH,↓reduceIte,↓fZ,↓gL,↓eJ,↓cL,↓dY,Opd.ev,Sx.get,put,bQ,fF,aU,dX,bB,SV.ren,lG,lH,kI,Int.cast_ofNat_Int]
   exact⟨[(0,0)],by simp[dS,aK,aM,aG,bB,b7,rd,Option.getD_some,List.length_cons,List.length_nil,Nat.zero_add,Nat.add_zero,↓reduceIte,Kind.isOwn,List.take_zero,and_self,true_and,exists_eq_left',Option.some.injEq,ne_eq,implies_true,List.not_mem_nil,Bool.true_or,forall_const,aC],by simp[Option.getD_some,List.length_cons,List.length_nil,Nat.zero_add,Nat.add_zero]⟩
def Ko (pd:List UInt8→Int→List UInt8):GS
 | [.str key,.int .u8 w],[]=>if key.length≤64 then some (.slc 0 0 1 64 none,[(0,⟨.own 5,aB (pd key w)⟩)],1) else none
 | _,_=>none
def IG (pd:List UInt8→Int→List UInt8):Prop:=∀ (key:List UInt8) (w:Int),key.length≤64→(pd key w).length=64∧∀ tS:List (Nat × List SV),Fun Tryz.prog tS 153 [.str key,.int .u8 w] [] 0 (.slc 0 0 1 64 none) [(0,⟨.own 5,aB (pd key w)⟩)] 1
theorem Rl:IG (fun key w=>fR key w 64):=fun key w h=>⟨kK key w 64,fun tS=>Zv key w h⟩
theorem Ol {pd:List UInt8→Int→List UInt8} (hpd:IG pd):dQ Tryz.prog tS 153 (Ko pd):=by
 intro a0 m0 r m1 n1 h
 unfold Ko at h
 split at h
 ·split at h
  ·rename_i hc
   cases h
   exact⟨(hpd _ _ hc).2 tS,by simp[dA]⟩
  ·cases h
 ·cases h
def BM (key text:List UInt8):List UInt8:=jR (fR key 92 64++jR (fR key 54 64++text))
theorem II (key text:List UInt8):(BM key text).length=32:=jS _
def GJ (pd:List UInt8→Int→List UInt8):List (FuncId × GS):=[(153,Ko pd),(146,Ez)]
theorem M6 {pd:List UInt8→Int→List UInt8} (hpd:IG pd):∀ x∈GJ pd,dQ Tryz.prog aO x.1 x.2:=by
 intro x hx
 simp only[GJ,List.mem_cons,List.not_mem_nil,or_false] at hx
 rcases hx with rfl|rfl
 ·exact Ol hpd
 ·exact IA
def IJ:Tab:=⟨[(154,Kn)],[]⟩
theorem Om:TabX Tryz.prog tS IJ:=by
 refine⟨fun x h args r hr=>?_,fun x h=>by simp[IJ] at h⟩
 simp only[IJ,List.mem_singleton] at h
 subst h
 simp only at hr
 unfold Kn at hr
 split at hr
 ·split at hr
  ·rename_i d hd
   split at hr
   ·rename_i hc
    cases hr
    rw[b8 hd]
    exact⟨Zu d hc,fun η=>by simp only[SV.renL,SV.ren,aC],fun η=>rfl⟩
   ·cases hr
  ·cases hr
 ·cases hr
def Ua (pd:List UInt8→Int→List UInt8):bG:=dR (GJ pd) (gT IJ)
theorem Rm {pd:List UInt8→Int→List UInt8} (hpd:IG pd):∀ f a m n K,Ua pd f a m n K→aY Tryz.prog aO f a m n K:=bA (M6 hpd) (cN Om)
theorem XV (pd:List UInt8→Int→List UInt8) (hpd:IG pd) (key text:List UInt8) (hk:key.length≤64) (ht:text.length≤2 ^ 30):Fun Tryz.prog aO 121 [.str key,.str text] [] 0 (.str (jR (pd key 92++jR (pd key 54++text)))) [] 0:=by
 refine bT none (Ua pd) (Rm hpd) Wf (Nat.le_of_ble_eq_true rfl) (fun η=>rfl) ?_
 conv in aJ _ _=>(reduce;simp only[aH,UInt8.reduceOfNat,Int.reduceOfNat,Int.reduceNegSucc])
 rw[aQ]
 have l1:=(hpd key 54 hk).1
 have l2:=(hpd key 92 hk).1
 generalize hA:pd key 54=A at *
 generalize hB:pd key 92=B at *
 have gs1:=DU (m:=A++text) (cap:=none) (by rw[List.length_append];omega) (fun c hc=>by cases hc)
 have hs1:=jS (A++text)
 have la:(A++text).length=64+text.length:=by rw[List.length_append,l1]
 rw[la] at gs1
 generalize jR (A++text)=S1 at *
 have gs2:=DU (m:=B++S1) (cap:=none) (by rw[List.length_append];omega) (fun c hc=>by cases hc)
 have lb:(B++S1).length=64+S1.length:=by rw[List.length_append,l2]
 rw[lb] at gs2
 have hs2:=jS (B++S1)
 generalize jR (B++S1)=S2 at *
 have gt1:=IF hs1
 have gt2:=IF hs2
 have t1:List.take 64 (aB A)=aB A:=List.take_of_length_le (by rw[aA,l1];exact Nat.le_refl _)
 have t2:List.take 64 (aB B)=aB B:=List.take_of_length_le (by rw[aA,l2];exact Nat.le_refl _)
 have a1:=cE A text
 have a2:=cE B S1
 have t3:List.take (64+text.length) (aB (A++text))=aB (A++text):=List.take_of_length_le (by rw[aA,la];exact Nat.le_refl _)
 have t4:List.take (64+S1.length) (aB (B++S1))=aB (B++S1):=List.take_of_length_le (by rw[aA,lb];exact Nat.le_refl _)
 have n1:(64:Nat)+text.length≤2 ^ 40:=by omega
 have n2:(64:Nat)+S1.length≤2 ^ 40:=by omega
 simp (maxSteps:=1000000) only [Ua,GJ,IJ,Ko,hk,hA,hB,l1,l2,t1,t2,a1,a2,t3,t4,la,lb,↓gs1,↓gs2,↓gt1,↓gt2,n1,n2,SV.flatL,SV.flat,Bool.and_self,and_self,↓AJ,g9,reduceCtorEq,Nat.reduceEqDiff,Nat.reduceAdd,Nat.reduceSub,Nat.reduceLT,eq_self, true_and,and_true,List.length_cons,List.length_nil,List.append_nil,List.nil_append,List.cons_append,List.drop_zero,List.map_cons,List.map_nil,Nat.zero_add,Nat.add_zero,gV,dN,cG,cB,aW,b6,cC,iW,vG,↓reduceIte,↓o3,↓fZ,↓i6,↓AI,↓iO,↓dY,Opd.ev,Sx.get,put,bQ,fF,aU,rd,rm,dX,↓sL,j5,hH,yQ,dT,CF,yR,bB,SV.ren,cQ,bZ,qM,Kind.isOwn,aC,List.getElem?_nil,Option.getD_none,Nat.sub_zero,Nat.le_refl,AM,aA,aX,Nat.mul_one]
 decide
theorem XW (key text:List UInt8) (hk:key.length≤64) (ht:text.length≤2 ^ 30):Fun Tryz.prog aO 121 [.str key,.str text] [] 0 (.str (BM key text)) [] 0:=
 XV _ Rl key text hk ht
end Go.Proofs.YtmhkkalbijbplaaGreatDoor
