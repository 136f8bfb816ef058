/- The proof, part Vg: HasA, HasB, HasC, HasD, HasE, HasF, HasP, StrA, RotC, StrB. -/
import Derived.Test.YtmhkkalbijbplaaGreatDoorVf
set_option linter.unusedSimpArgs false
set_option linter.unusedVariables false
set_option maxRecDepth 100000
set_option maxHeartbeats 16000000
namespace Go.Proofs.YtmhkkalbijbplaaGreatDoor
open Go Go.Sx
variable {tS:List (Nat × List SV)}
def OK:Tab:=⟨[],[]⟩
theorem R7:TabX Tryz.prog tS OK:=⟨fun x h=>by simp[OK] at h,fun x h=>by simp[OK] at h⟩
theorem R8 {r:Nat} (h1:1≤r) (h2:r≤31):dL .and .u64 (IntKind.u64.wrap (-(r:Int))) 31=((32 - r:Nat):Int) ∧
  IntKind.u64.wrap (32 - ((32 - r:Nat):Int))=(r:Int):=by
 have:∀ r:Fin 32,1≤r.val→dL .and .u64 (IntKind.u64.wrap (-(r.val:Int))) 31=((32 - r.val:Nat):Int)∧IntKind.u64.wrap (32 - ((32 - r.val:Nat):Int))=(r.val:Int):=by decide
 exact this ⟨r,by omega⟩ h1
def mM (n:Int) (r:Nat):Int:=dL .or .u32 (IntKind.u32.wrap (n * 2 ^ (min (32 - r) IntKind.u32.bits))) (n.fdiv (2 ^ (min r IntKind.u32.bits)))
theorem UU (x:Je) (r:Nat) (h2:r≤32):mM (x.toNat:Int) r=((WV r x).toNat:Int):=by
 unfold mM
 rw[Hg x (32 - r) (by omega),TS x r h2,MM];rfl
theorem f104 (n:Int) (r:Nat) (h1:1≤r) (h2:r≤31):Fun Tryz.prog tS 172 [.int .u32 n,.int .i64 (-(r:Int))] [] 0 (.int .u32 (mM n r)) [] 0:=by
 refine bT none (gT OK) (cN R7) XM (Nat.le_of_ble_eq_true rfl) (fun _=>rfl) ?_
 conv in aJ _ _=>(reduce;simp only[aH,seval])
 rw[aQ]
 obtain⟨e1,e2⟩:=R8 h1 h2
 have e3:(0:Int)≤((32 - r:Nat):Int):=by omega
 have e4:(0:Int)≤(r:Int):=by omega
 have t1:((32 - r:Nat):Int).toNat=32 - r:=by omega
 have t2:((r:Nat):Int).toNat=r:=by omega
 simp only[e1,e2,e3,e4,t1,t2,mM,OK,undef,eF,nD,Ei,cV,jC,touch,clear,eV,lZ,oZ,bC,aF,mI,EF,BC,↓PC,seval]
def EO:List SV→Option SV
 | [.int .u32 n,.int .i64 (.negSucc k)]=>if k+1≤31 then some (.int .u32 (mM n (k+1))) else none
 | _=>none
theorem Jg {n:Int} {r:Nat} (h1:1≤r) (h2:r≤31):EO [.int .u32 n,.int .i64 (-(r:Int))]=some (.int .u32 (mM n r)):=by
 obtain⟨k,rfl⟩:∃ k,r=k+1:=⟨r - 1,by omega⟩
 show EO [.int .u32 n,.int .i64 (.negSucc k)]=_
 simp only[EO]
 rw[if_pos h2]
def Hh:Tab:=⟨[(172,EO)],[]⟩
theorem AQ:TabX Tryz.prog tS Hh:=by
 refine⟨fun x h args r hr=>?_,fun x h=>by simp[Hh] at h⟩
 simp only[Hh,List.mem_singleton] at h
 subst h
 simp only at hr
 unfold EO at hr
 split at hr
 ·rename_i n k
  split at hr
  ·rename_i hc
   cases hr
   exact⟨f104 n (k+1) (by omega) hc,fun η=>by simp only[SV.renL,SV.ren],fun η=>by simp only[SV.renL,SV.ren]⟩
  ·cases hr
 ·cases hr
def Bq (n:Int) (i j k:Nat):Int:=dL .xor .u32 (dL .xor .u32 (mM n i) (mM n j)) (mM n k)
theorem f87 (n:Int) (i j k:Nat) (hi:1≤i∧i≤31) (hj:1≤j∧j≤31) (hk:1≤k∧k≤31) :
  Fun Tryz.prog tS 170 [.int .u32 n,.int .i64 (i:Int),.int .i64 (j:Int),.int .i64 (k:Int)] [] 0 (.int .u32 (Bq n i j k)) [] 0:=by
 refine bT none (gT Hh) (cN AQ) XL (Nat.le_of_ble_eq_true rfl) (fun _=>rfl) ?_
 conv in aJ _ _=>(reduce;simp only[aH,seval])
 rw[aQ]
 have G1:=@Jg n i hi.1 hi.2
 have G2:=@Jg n j hj.1 hj.2
 have G3:=@Jg n k hk.1 hk.2
 have w1:IntKind.i64.wrap (0 - (i:Int))=-(i:Int):=by rw[wrap64 (by omega) (by omega)];omega
 have w2:IntKind.i64.wrap (0 - (j:Int))=-(j:Int):=by rw[wrap64 (by omega) (by omega)];omega
 have w3:IntKind.i64.wrap (0 - (k:Int))=-(k:Int):=by rw[wrap64 (by omega) (by omega)];omega
 simp only[w1,w2,w3,↓G1,↓G2,↓G3,Bq,Hh,undef,eF,nD,Ei,cV,jC,touch,clear,eV,lZ,oZ,bC,aF,mI,EF,BC,↓PC,seval]
def u8 (n:Int):SV:=.int .u8 n
def oI (a b:Int):Int:=IntKind.u32.wrap (a+b)
def OL (n:Int) (r:Nat):Int:=n.fdiv (2 ^ (min r IntKind.u32.bits))
def sP (w c:Int):Int:=dL .or .u32 (IntKind.u32.wrap (w * 2 ^ (min 8 IntKind.u32.bits))) (IntKind.u32.wrap c)
def OM (b:List Int) (t:Nat):Int:=sP (sP (sP (sP 0 (b.getD (4 * t) 0)) (b.getD (4 * t+1) 0)) (b.getD (4 * t+2) 0)) (b.getD (4 * t+3) 0)
def ON (p:Int):Int:=dL .xor .u32 (dL .xor .u32 (mM p 7) (mM p 18)) (OL p 3)
def OO (q:Int):Int:=dL .xor .u32 (dL .xor .u32 (mM q 17) (mM q 19)) (OL q 10)
def v8 (b l:List Int) (t:Nat):Int:=
 if t < 16 then OM b t else oI (oI (oI (l.getD (t - 16) 0) (ON (l.getD (t - 15) 0))) (l.getD (t - 7) 0)) (OO (l.getD (t - 2) 0))
def iU (b:List Int):Nat→List Int
 | 0=>[]
 | t+1=>iU b t++[v8 b (iU b t) t]
theorem gE (b:List Int):∀ t,(iU b t).length=t
 | 0=>rfl
 | t+1=>by simp[iU,gE b t]
def cW (b:List Int) (t:Nat):List SV:=(iU b t).map u32++List.replicate (64 - t) (u32 0)
theorem BF {b:List Int} {t:Nat} (h:t≤64):(cW b t).length=64:=by simp[cW,gE];omega
theorem wV {b:List Int} {t j:Nat} (h:j < t):(cW b t)[j]?=some (u32 ((iU b t).getD j 0)):=by
 unfold cW
 rw[List.getElem?_append_left (by simp[gE,h])]
 simp[List.getD_eq_getElem?_getD,gE,h]
theorem UV {b:List Int} {t:Nat} (h:t < 64):(cW b t)[t]?=some (u32 0):=by
 unfold cW
 rw[List.getElem?_append_right (by simp[gE]),List.getElem?_replicate,if_pos (by simp only[List.length_map,gE];omega)]
def cM (b:List Int) (t:Nat) (v:SV):List SV:=(iU b t).map u32++v :: List.replicate (63 - t) (u32 0)
theorem Fv {b:List Int} {t:Nat} (h:t < 64) (v:SV):aF (cW b t) t [v]=cM b t v:=by
 unfold aF cW cM
 have e:64 - t=(63 - t)+1:=by omega
 rw[List.take_left' (by simp[gE]),e,List.replicate_succ]
 simp[List.drop_append,gE]
theorem UW {b:List Int} {t:Nat} (h:t < 64) (v:SV):(cM b t v).length=64:=by simp[cM,gE];omega
theorem UX {b:List Int} {t:Nat} (v:SV):(cM b t v)[t]?=some v:=by
 unfold cM
 rw[List.getElem?_append_right (by simp[gE])]
 simp[gE]
theorem UY {b:List Int} {t:Nat} (v v':SV):aF (cM b t v) t [v']=cM b t v':=by
 unfold aF cM
 rw[List.take_left' (by simp[gE])]
 simp[List.drop_append,gE]
theorem CI {b:List Int} {t:Nat}:cM b t (.int .u32 (v8 b (iU b t) t))=cW b (t+1):=by
 unfold cM cW
 simp only[iU,List.map_append,List.append_assoc,BB]
 rw[show 64 - (t+1)=63 - t by omega];rfl
theorem OP (η:Nat→Nat × Nat) (b:List Int) (t:Nat):SV.renL η (cW b t)=cW b t:=by
 rw[SV.renL_eq]
 unfold cW
 simp[u32,SV.ren]
theorem OQ (η:Nat→Nat × Nat) (b:List Int) (t:Nat) (n:Int):SV.renL η (cM b t (.int .u32 n))=cM b t (.int .u32 n):=by
 rw[SV.renL_eq]
 unfold cM
 simp[u32,SV.ren]
theorem Jh (η:Nat→Nat × Nat) (b:List Int):SV.renL η (b.map u8)=b.map u8:=by
 rw[SV.renL_eq]
 simp[u8,SV.ren]
def Ms:List SV:=List.replicate 64 (.int .u32 0)
theorem K6 (η:Nat→Nat × Nat):SV.renL η Ms=Ms:=by
 rw[SV.renL_eq]
 unfold Ms
 rw[List.map_replicate];rfl
theorem OR (b:List Int):cW b 64=(iU b 64).map u32:=by simp[cW]
theorem Fw (η:Nat→Nat × Nat) (l:List Int):(SV.agg (l.map u32)).ren η=SV.agg (l.map u32):=by
 simp only[SV.ren,SV.renL_eq,List.map_map]
 congr 1
theorem f86 (b:List Int) (hb:b.length=64) (cap:Option Nat) (hcap:o5 cap 64):Fun Tryz.prog tS 169 [.slc 0 0 1 64 cap] [(0,⟨.view,b.map u8⟩)] 1 (.agg ((iU b 64).map u32)) [] 1:=by
 refine nN none (gT Hh) (cN AQ) XK (Nat.le_of_ble_eq_true rfl) (fun η=>Fw η _) ?_
 conv in aJ _ _=>(reduce;simp only[aH,seval])
 rw[aQ]
 simp only[Hh,BC,↓PC,seval]
 rw[aL]
 have hW:=fun η t=>OP η b t
 have hM:=fun η t n=>OQ η b t n
 have hB:=fun η=>Jh η b
 have hz:=fun η=>K6 η
 refine bF (cN AQ) (σ:=Nat) (fun t=>[(11,.int .i64 (t:Int)),(3,.ptr 2 0),(2,.ptr 1 0),(0,.slc 0 0 1 64 cap)])
  (fun t=>[(2,⟨.own 169,cW b t⟩),(1,⟨.own 169,Ms⟩),(0,⟨.view,b.map u8⟩)]) (fun _=>3) (fun t=>t≤64) (fun t=>64 - t) 0 ?_ (Nat.zero_le _) ?_
 ·exact⟨[(0,0),(1,0),(2,0)],by simp only[hW,hB,hz,BC,seval];trivial,by simp[BC,seval]⟩
 ·intro t ht
  by_cases JI:t < 64
  ·have i1:(t:Int) < 64:=by omega
   have i0:(0:Int)≤(t:Int):=by omega
   have wt:IntKind.i64.wrap ((t:Int)+1)=((t+1:Nat):Int):=by rw[wrap64 (by omega) (by omega)];omega
   by_cases uT:t < 16
   ·have i2:(t:Int) < 16:=by omega
    have w1:IntKind.i64.wrap (4 * (t:Int))=((4 * t:Nat):Int):=by rw[wrap64 (by omega) (by omega)];omega
    have w2:IntKind.i64.wrap (((4 * t:Nat):Int)+4)=((4 * t+4:Nat):Int):=by rw[wrap64 (by omega) (by omega)];omega
    have k0:4 * t+4≤64:=by omega
    have hlen:(b.map u8).length=64:=by simp[hb]
    have v1:(0:Int)≤((4 * t:Nat):Int):=by omega
    have v2:((4 * t:Nat):Int)≤((4 * t+4:Nat):Int):=by omega
    have v3:((4 * t+4:Nat):Int)≤64:=by omega
    have v4:4 * t+4 - 4 * t=4:=by omega
    simp only[i1,i2,w1,w2,v1,v2,v3,v4,hlen,BC,↓PC,seval]
    refine⟨by cases cap with
     | none=>trivial
     | some c=>exact hcap c rfl,?_⟩
    rw[aL]
    refine a8 (cN AQ) (aN _ _) 5 ?_
    have hj:∀ j,4 * t+j < 64→(b.map u8)[4 * t+j]?=some (u8 (b.getD (4 * t+j) 0)):=by
     intro j hj
     simp[List.getD_eq_getElem?_getD,show 4 * t+j < b.length by omega]
    have h0:=hj 0 (by omega)
    rw[Nat.add_zero] at h0
    have h1:=hj 1 (by omega)
    have h2:=hj 2 (by omega)
    have h3:=hj 3 (by omega)
    have lt1:∀ j,j < 4→4 * t+j < 64:=by omega
    simp only[h0,h1,h2,h3,hlen,i1,i0,BF ht,UW JI,UV JI,Fv JI,UX,UY,wt,u8,u32,bC,BC,↓PC,seval]
    refine⟨by omega,by omega,by omega,by omega,by omega,by omega,by omega,by omega,t+1,⟨[(0,0),(1,0),(2,0)],?_,by simp[BC,seval]⟩,by omega,by omega⟩
    rw[← CI (b:=b) (t:=t),show v8 b (iU b t) t=OM b t from if_pos uT]
    unfold OM sP
    simp only[hM,hB,hz,BC,seval]
   ·have i2:¬ (t:Int) < 16:=by omega
    have a1:IntKind.i64.wrap ((t:Int) - 15)=((t - 15:Nat):Int):=by rw[wrap64 (by omega) (by omega)];omega
    have a2:IntKind.i64.wrap ((t:Int) - 2)=((t - 2:Nat):Int):=by rw[wrap64 (by omega) (by omega)];omega
    have a3:IntKind.i64.wrap ((t:Int) - 16)=((t - 16:Nat):Int):=by rw[wrap64 (by omega) (by omega)];omega
    have a4:IntKind.i64.wrap ((t:Int) - 7)=((t - 7:Nat):Int):=by rw[wrap64 (by omega) (by omega)];omega
    have b1:(0:Int)≤((t - 15:Nat):Int)∧((t - 15:Nat):Int) < 64:=by omega
    have b2:(0:Int)≤((t - 2:Nat):Int)∧((t - 2:Nat):Int) < 64:=by omega
    have b3:(0:Int)≤((t - 16:Nat):Int)∧((t - 16:Nat):Int) < 64:=by omega
    have b4:(0:Int)≤((t - 7:Nat):Int)∧((t - 7:Nat):Int) < 64:=by omega
    have c1:(cW b t)[t - 15]?=_:=wV (by omega)
    have c2:(cW b t)[t - 2]?=_:=wV (by omega)
    have c3:(cW b t)[t - 16]?=_:=wV (by omega)
    have c4:(cW b t)[t - 7]?=_:=wV (by omega)
    have g7:∀ n,EO [.int .u32 n,.int .i64 (-7)]=some (.int .u32 (mM n 7)):=fun n=>Jg (r:=7) (by decide) (by decide)
    have g18:∀ n,EO [.int .u32 n,.int .i64 (-18)]=some (.int .u32 (mM n 18)):=fun n=>Jg (r:=18) (by decide) (by decide)
    have g17:∀ n,EO [.int .u32 n,.int .i64 (-17)]=some (.int .u32 (mM n 17)):=fun n=>Jg (r:=17) (by decide) (by decide)
    have g19:∀ n,EO [.int .u32 n,.int .i64 (-19)]=some (.int .u32 (mM n 19)):=fun n=>Jg (r:=19) (by decide) (by decide)
    simp only[i1,i2,i0,a1,a2,a3,a4,b1.1,b2.1,b3.1,b4.1,b1.2,b2.2,b3.2,b4.2,c1,c2,c3,c4,↓g7,↓g18,↓g17,↓g19,BF ht,Fv JI,wt,u32,bC,BC,↓PC,seval]
    refine⟨by omega,t+1,⟨[(0,0),(1,0),(2,0)],?_,by simp[BC,seval]⟩,by omega,by omega⟩
    rw[← CI (b:=b) (t:=t),show v8 b (iU b t) t=_ from if_neg uT]
    unfold oI ON OO OL
    simp only[hM,hB,hz,BC,seval]
  ·obtain rfl:t=64:=by omega
   simp only[bC,aF,BC,↓PC,seval]
   have hl:=BF (b:=b) (Nat.le_refl 64)
   have hz:Ms.length=64:=by simp[Ms]
   have hd:List.drop 64 Ms=[]:=List.drop_of_length_le (by omega)
   rw[List.take_of_length_le (by omega:(cW b 64).length≤64),hl,hd,List.append_nil,hl,hz,List.take_of_length_le (by omega:(cW b 64).length≤64),OR]
   exact⟨Nat.le_refl _,rfl,Nat.le_refl _,Nat.le_refl _,rfl⟩
def Hi:List SV→Option (List Int)
 | []=>some []
 | .int .u8 n :: l=>match Hi l with
  | some r=>some (n :: r)
  | none=>none
 | _=>none
theorem AR:∀ b:List Int,Hi (b.map u8)=some b
 | []=>rfl
 | n :: b=>by simp only[List.map_cons,u8,Hi];rw[show List.map u8 b=b.map u8 from rfl,AR b]
theorem yB:∀ {l:List SV} {b:List Int},Hi l=some b→l=b.map u8
 | [],b,h=>by simp only[Hi] at h;cases h;rfl
 | x :: l,b,h=>by
  unfold Hi at h
  split at h
  ·rename_i he;cases he
  ·rename_i n l' he
   cases he
   split at h
   ·rename_i r hr;cases h;rw[yB hr];rfl
   ·cases h
  ·cases h
def Fx:GS
 | [.slc 0 0 1 64 cap],[(0,⟨.view,cells⟩)]=>match Hi cells with
  | some b=>match Nat.beq b.length 64,jO cap 64 with
   | true,true=>some (.agg ((iU b 64).map u32),[],1)
   | _,_=>none
  | none=>none
 | _,_=>none
theorem R9:dQ Tryz.prog tS 169 Fx:=by
 intro a0 m0 r m1 n1 h
 unfold Fx at h
 split at h
 ·rename_i cap cells
  split at h
  ·rename_i b hb
   split at h
   ·rename_i h1 h2
    cases h
    rw[yB hb]
    exact⟨f86 b (Nat.eq_of_beq_eq_true h1) cap (nM h2),by simp[dA]⟩
   ·cases h
  ·cases h
 ·cases h
def Hj (a b:Int):Int:=dL .and .u32 a b
def MN (a b:Int):Int:=dL .xor .u32 a b
def OS (a:Int):Int:=dL .xor .u32 (if IntKind.u32.signed then -1 else IntKind.u32.max) a
structure V8 where
 a:Int
 b:Int
 c:Int
 d:Int
 e:Int
 f:Int
 g:Int
 h:Int
def V8.round (s:V8) (w k:Int):V8:=
 let x:=oI (oI (oI (oI s.h (Bq s.e 6 11 25)) (MN (Hj s.e s.f) (Hj (OS s.e) s.g))) k) w
 let y:=oI (Bq s.a 2 13 22) (MN (MN (Hj s.a s.b) (Hj s.a s.c)) (Hj s.b s.c))
 ⟨oI x y,s.a,s.b,s.c,oI s.d x,s.e,s.f,s.g⟩
def V8.rounds (w:List Int) (s:V8):Nat→V8
 | 0=>s
 | t+1=>(V8.rounds w s t).round (w.getD t 0) (kc.getD t 0)
def V8.l (s:V8):List Int:=[s.a,s.b,s.c,s.d,s.e,s.f,s.g,s.h]
def V8.add (s v:V8):V8:=⟨oI s.a v.a,oI s.b v.b,oI s.c v.c,oI s.d v.d,oI s.e v.e,oI s.f v.f,oI s.g v.g,oI s.h v.h⟩
def comp (s:V8) (b:List Int):V8:=s.add (V8.rounds (iU b 64) s 64)
def Ra:List SV→Option SV
 | [.int .u32 n,.int .i64 (.ofNat i),.int .i64 (.ofNat j),.int .i64 (.ofNat k)]=>if (1≤i∧i≤31)∧(1≤j∧j≤31)∧(1≤k∧k≤31) then some (.int .u32 (Bq n i j k)) else none
 | _=>none
def OT:Tab:=⟨[(172,EO),(170,Ra)],[]⟩
theorem Rb:TabX Tryz.prog tS OT:=by
 refine⟨fun x h args r hr=>?_,fun x h=>by simp[OT] at h⟩
 simp only[OT,List.mem_cons,List.not_mem_nil,or_false] at h
 rcases h with rfl|rfl
 ·exact AQ.p _ (by simp[Hh]) args r hr
 ·simp only at hr
  unfold Ra at hr
  split at hr
  ·split at hr
   ·rename_i hc
    cases hr
    exact⟨f87 _ _ _ _ hc.1 hc.2.1 hc.2.2,fun η=>by simp only[SV.renL,SV.ren],fun η=>by simp only[SV.renL,SV.ren]⟩
   ·cases hr
  ·cases hr
def OU:bG:=dR [(169,Fx)] (gT OT)
theorem DL:∀ f a m n K,OU f a m n K→aY Tryz.prog tS f a m n K:=
 bA (fun x h=>by simp only[List.mem_singleton] at h;subst h;exact R9) (cN Rb)
theorem OV {b:List Int} (hb:b.length=64):Nat.beq b.length 64=true:=by rw[hb];rfl
theorem K7:∀ b:List Int,SV.flatL (b.map u8)=true
 | []=>rfl
 | n :: b=>by simp only[List.map_cons,SV.flatL,u8,SV.flat,Bool.true_and];exact K7 b
def z8:List SV:=[.int .u32 0,.int .u32 0,.int .u32 0,.int .u32 0,.int .u32 0,.int .u32 0,.int .u32 0,.int .u32 0]
theorem DM (η:Nat→Nat × Nat) (l:List Int):SV.renL η (l.map u32)=l.map u32:=by
 simp only[SV.renL_eq,List.map_map]
 congr 1
theorem XN:wR tH 1=some (kc.map u32):=(rfl)
theorem UZ:(kc.map u32).length=64:=(rfl)
theorem Rc:List.take 64 (kc.map u32)=kc.map u32:=(rfl)
theorem f73 (s:V8) (b:List Int) (hb:b.length=64) (cap:Option Nat) (hcap:o5 cap 64) :
  Fun Tryz.prog tH 167 [.agg (s.l.map u32),.slc 0 0 1 64 cap] [(0,⟨.view,b.map u8⟩)] 1 (.agg ((comp s b).l.map u32)) [] 1:=by
 refine nN none OU DL XJ (Nat.le_of_ble_eq_true rfl) (fun η=>Fw η _) ?_
 conv in aJ _ _=>(reduce;simp only[aH,UInt8.reduceOfNat,Int.reduceOfNat,Int.reduceNegSucc])
 rw[aQ]
 obtain⟨a0,a1,a2,a3,a4,a5,a6,a7⟩:=s
 have hlen:(b.map u8).length=64:=by simp[hb]
 have hfl:=K7 b
 have htk:List.take 64 (b.map u8)=b.map u8:=List.take_of_length_le (by omega)
 have hl64:=OV hb
 have hcb:jO cap 64=true:=by
  cases cap with
  | none=>rfl
  | some c=>exact Nat.ble_eq_true_of_le (hcap c rfl)
 have hw:=fun η l=>DM η l
 have hsl:(List.map u32 (iU b 64)).length=64:=by simp[gE]
 have hst:List.take 64 (List.map u32 (iU b 64))=List.map u32 (iU b 64):=List.take_of_length_le (by omega)
 have rW:∀ η,SV.renL η (List.map u32 (iU b 64))=List.map u32 (iU b 64):=fun η=>DM η _
 have rK:∀ η,SV.renL η (List.map u32 kc)=List.map u32 kc:=fun η=>DM η _
 have rB:∀ η,SV.renL η (List.map u8 b)=List.map u8 b:=fun η=>Jh η b
 have ru:∀ η n,(u32 n).ren η=u32 n:=fun _ _=>rfl
 have d64:List.drop 64 (List.replicate 64 (SV.int .u32 0))=[]:=rfl
 generalize hRe:(fun t=>V8.rounds (iU b 64) ⟨a0,a1,a2,a3,a4,a5,a6,a7⟩ t)=R
 have hR0:R 0=⟨a0,a1,a2,a3,a4,a5,a6,a7⟩:=by rw[← hRe];rfl
 generalize hW:List.map u32 (iU b 64)=W at *
 simp (maxSteps:=1000000) only [OU,OT,Fx,AR,hlen,hfl,htk,hl64,hcb,V8.l,hW,XN,UZ,Rc,beq_self_eq_true,and_self,Nat.reduceBEq,g9,reduceCtorEq,Nat.reduceEqDiff,Nat.reduceAdd,Nat.reduceSub,Nat.reduceLeDiff,Nat.reduceLT,Int.reduceToNat,Int.reduceLE,eq_self,Int.cast_ofNat_Int, true_and,and_true,List.getElem?_cons_zero,List.getElem?_cons_succ,List.length_cons,List.length_nil,List.append_nil,List.nil_append,List.cons_append,List.take_succ_cons,List.take_zero,List.drop_succ_cons,List.drop_zero,List.take_nil,List.drop_nil,List.reverse_cons,List.reverse_nil,List.map_cons,List.map_nil,Nat.zero_add,Nat.add_zero,gV,cG,cB,aW,b6,Cy,N6,Ei,cV,jC,touch,clear,eV,lZ,List.contains_cons,List.contains_nil,Bool.or_false,Bool.or_self,Bool.or_true,cC,cK,↓reduceIte,↓B6,↓mL,↓nK,↓Fm,↓fZ,↓AH,↓Aw,↓i6,↓uE,↓Cz,Opd.ev,Sx.get,put,bQ,fF,aU,iZ,fH,bM,jJ,eD,dW,rd,bC,aF,SV.cells?,SV.one,↓sL,j5,hH,yQ,dT,CF,yR,SV.ren,cQ,bZ,qM,Kind.isOwn,Nat.sub_zero,Nat.le_refl,Nat.mul_one,Int.cast_ofNat_Int]
 refine⟨by rw[rW];exact hsl,?_⟩
 rw[rW]
 rw[aL]
 refine bF DL (σ:=Nat) (fun t=>[(22,.int .i64 (t:Int)),(21,.agg (kc.map u32)),(7,.ptr 5 0),(6,.ptr 4 0),(5,.ptr 3 0),(4,.ptr 2 0),(2,.ptr 1 0)])
  (fun t=>[(5,⟨.own 174,[u32 (R t).e,u32 (R t).f,u32 (R t).g,u32 (R t).h]⟩),(4,⟨.own 174,[u32 (R t).a,u32 (R t).b,u32 (R t).c,u32 (R t).d]⟩),(3,⟨.own 169,W⟩),
   (2,⟨.own 149,z8⟩),(1,⟨.own 149,[u32 a0,u32 a1,u32 a2,u32 a3,u32 a4,u32 a5,u32 a6,u32 a7]⟩),(0,⟨.view,b.map u8⟩)]) (fun _=>6) (fun t=>t≤64) (fun t=>64 - t) 0 ?_ (Nat.zero_le _) ?_
 ·refine⟨[(0,0),(1,0),(2,0),(3,0),(4,0),(5,0)],?_,?_⟩
  ·simp only[rW,ru,rB,hR0,hsl,z8,dS,aK,aM,aG,bB,b7,rd,SV.ren,SV.renL,Option.getD_some,List.getElem?_cons_zero,List.getElem?_cons_succ,List.length_cons,List.length_nil,Nat.zero_add,Nat.add_zero,Nat.reduceAdd,Nat.reduceSub,Nat.reduceEqDiff,Nat.reduceLT,Nat.reduceLeDiff,↓reduceIte,Kind.isOwn,List.take_succ_cons,List.take_zero,List.nil_append,and_self,and_true,true_and,exists_eq_left',Option.some.injEq,List.drop_zero,List.take_length,Nat.le_refl,ne_eq,not_false_eq_true,implies_true,List.not_mem_nil,false_imp_iff,Bool.false_or,Bool.true_or,forall_const,reduceCtorEq,List.mem_cons,or_false,forall_eq_or_imp,forall_eq,Nat.succ_ne_self]
   refine (congrArg (W++·) (List.drop_of_length_le ?_)).trans (List.append_nil W)
   exact Nat.le_refl 64
  ·simp only[rK,dI,eX,bB,SV.ren,Option.getD_some,List.getElem?_cons_zero,List.getElem?_cons_succ,List.length_cons,List.length_nil,Nat.zero_add,Nat.add_zero,Nat.reduceAdd,Nat.reduceSub,Nat.reduceEqDiff,↓reduceIte,and_self,and_true,Option.some.injEq,Nat.succ_ne_self]
   rfl
 ·intro t ht
  by_cases JI:t < 64
  ·have c1:(t:Int) < 64:=by omega
   have c2:(0:Int)≤(t:Int):=by omega
   have wt:IntKind.i64.wrap ((t:Int)+1)=((t+1:Nat):Int):=by rw[aD (by omega) (by omega)];omega
   have gk:(List.map u32 kc)[t]?=some (u32 (kc.getD t 0)):=by
    have:kc.length=64:=rfl
    simp[List.getD_eq_getElem?_getD,show t < kc.length by omega]
   have gw:W[t]?=some (u32 ((iU b 64).getD t 0)):=by
    rw[← hW]
    simp[List.getD_eq_getElem?_getD,gE,JI]
   have hR1:R (t+1)=(R t).round ((iU b 64).getD t 0) (kc.getD t 0):=by rw[← hRe];rfl
   generalize hk:kc.getD t 0=k at *
   generalize hwt:(iU b 64).getD t 0=w at *
   rcases hRt:R t with⟨a,bb,c,d,e,f,g,h⟩
   simp only
   have m1:∀ n,Ra [.int .u32 n,.int .i64 6,.int .i64 11,.int .i64 25]=some (.int .u32 (Bq n 6 11 25)):=fun n=>rfl
   have m2:∀ n,Ra [.int .u32 n,.int .i64 2,.int .i64 13,.int .i64 22]=some (.int .u32 (Bq n 2 13 22)):=fun n=>rfl
   simp (maxSteps:=1000000) only [↓m1,↓m2,c1,c2,gk,gw,wt,u32,SV.flatL,SV.flat,Bool.and_self,↓AJ,g9,iA,reduceCtorEq,Nat.reduceEqDiff,Nat.reduceAdd,Nat.reduceLeDiff,Int.reduceToNat,Int.reduceLT,Int.reduceLE,Int.reduceNeg,eq_self,decide_true,Int.cast_ofNat_Int, true_and,List.getElem?_cons_zero,List.getElem?_cons_succ,List.length_cons,List.length_nil,List.append_nil,List.nil_append,List.cons_append,List.take_succ_cons,List.take_zero,List.drop_succ_cons,List.drop_zero,List.drop_nil,List.map_cons,List.map_nil,Nat.zero_add,Nat.add_zero,dN,cG,↓mU,cB,aW,eK,b6,AG,cC,dB,cK,mX,↓reduceIte,↓Fj,↓mL,↓nK,↓J8,↓fZ,↓wS,↓gL,↓MH,↓AI,↓sI,↓eJ,↓cL,↓eG,Opd.ev,Sx.get,put,bQ,fF,aU,rd,bC,aF,SV.cells?,SV.one,↓sL,Nat.le_refl,Int.toNat_natCast,Nat.mul_one,Int.cast_ofNat_Int]
   rw[hRt] at hR1
   refine⟨t+1,⟨[(0,0),(1,0),(2,0),(3,0),(4,0),(5,0)],?_,?_⟩,by omega,by omega⟩
   ·simp only[hR1,V8.round,oI,MN,Hj,OS,rW,rB,z8,dS,aK,aM,aG,bB,b7,rd,SV.ren,SV.renL,Option.getD_some,List.getElem?_cons_zero,List.getElem?_cons_succ,List.length_cons,List.length_nil,Nat.zero_add,Nat.add_zero,Nat.reduceAdd,Nat.reduceSub,Nat.reduceEqDiff,Nat.reduceLT,Nat.reduceLeDiff,↓reduceIte,Kind.isOwn,List.take_succ_cons,List.take_zero,List.nil_append,and_self,true_and,exists_eq_left',Option.some.injEq,List.drop_zero,List.take_length,Nat.le_refl,ne_eq,not_false_eq_true,implies_true,List.not_mem_nil,false_imp_iff,Bool.false_or,Bool.true_or,forall_const,reduceCtorEq,List.mem_cons,or_false,forall_eq_or_imp,forall_eq,Nat.succ_ne_self]
   ·simp only[rK,dI,eX,bB,SV.ren,Option.getD_some,List.getElem?_cons_zero,List.getElem?_cons_succ,List.length_cons,List.length_nil,Nat.zero_add,Nat.add_zero,Nat.reduceAdd,Nat.reduceSub,Nat.reduceEqDiff,↓reduceIte,and_self,Nat.succ_ne_self]
  ·obtain rfl:t=64:=by omega
   rcases hRt:R 64 with⟨a,bb,c,d,e,f,g,h⟩
   have hcomp:comp ⟨a0,a1,a2,a3,a4,a5,a6,a7⟩ b=V8.add ⟨a0,a1,a2,a3,a4,a5,a6,a7⟩ ⟨a,bb,c,d,e,f,g,h⟩:=by
    unfold comp;rw[← hRt,← hRe]
   simp only
   simp (maxSteps:=1000000) only [u32,nJ,Nat.reduceEqDiff,Int.reduceLT,eq_self,decide_false,Int.cast_ofNat_Int, true_and,dN,cG,↓nU,cB,aW,b6,cC,dB,cK,i5,oC,oD,↓reduceIte,↓fZ,↓gL,↓eJ,↓cL,Opd.ev,Sx.get,put,bQ,fF,aU,Int.cast_ofNat_Int]
   rw[aL]
   refine a8 DL (aN _ _) 5 ?_
   simp (maxSteps:=1000000) only [z8,hcomp,V8.add,oI,and_self,reduceCtorEq,Nat.reduceEqDiff,Nat.reduceAdd,Nat.reduceLeDiff,Int.reduceToNat,Int.reduceLT,Int.reduceLE,Int.reduceAdd,Int.reduceNeg,wrap64,eq_self,decide_true,decide_false,Int.cast_ofNat_Int,List.getElem?_cons_zero,List.getElem?_cons_succ,List.length_cons,List.length_nil,List.append_nil,List.nil_append,List.cons_append,List.take_succ_cons,List.take_zero,List.drop_succ_cons,List.drop_zero,List.take_nil,List.drop_nil,List.map_cons,List.map_nil,Nat.zero_add,Nat.add_zero,dN,cG,↓mU,↓nU,cB,aW,eK,b6,AG,cC,dB,cK,i5,iW,mX,oC,oD,Fh,H7,vG,↓reduceIte,↓mL,↓nK,↓fZ,↓wS,↓gL,↓sI,↓eJ,↓cL,↓dY,Opd.ev,Sx.get,put,bQ,fF,aU,rd,bC,aF,SV.cells?,SV.one,dX,Nat.le_refl,Nat.mul_one,Int.cast_ofNat_Int]
def XO:GS
 | [.agg [.int .u32 a,.int .u32 b,.int .u32 c,.int .u32 d,.int .u32 e,.int .u32 f,.int .u32 g,.int .u32 h],.slc 0 0 1 64 cap],[(0,⟨.view,cells⟩)]=>match Hi cells with
  | some bl=>match Nat.beq bl.length 64,jO cap 64 with
   | true,true=>some (.agg ((comp ⟨a,b,c,d,e,f,g,h⟩ bl).l.map u32),[],1)
   | _,_=>none
  | none=>none
 | _,_=>none
theorem U0:dQ Tryz.prog tH 167 XO:=by
 intro a0 m0 r m1 n1 hh
 unfold XO at hh
 split at hh
 ·rename_i a b c d e f g h cap cells
  split at hh
  ·rename_i bl hb
   split at hh
   ·rename_i h1 h2
    cases hh
    rw[yB hb]
    exact⟨f73 ⟨a,b,c,d,e,f,g,h⟩ bl (Nat.eq_of_beq_eq_true h1) cap (nM h2),by simp[dA]⟩
   ·cases hh
  ·cases hh
 ·cases hh
def Be (b:List UInt8):List Int:=b.map (fun x=>(x.toNat:Int))
theorem OW (b:List UInt8):(Be b).map u8=aB b:=by
 simp only[Be,aB,List.map_map]
 rfl
theorem K8 (b:List UInt8):(Be b).length=b.length:=by simp[Be]
structure HS where
 s:V8
 b:List UInt8
 n:Nat
def HS.push (h:HS) (c:UInt8):HS:=
 ⟨if h.n % 64=63 then comp h.s (Be (h.b.set (h.n % 64) c)) else h.s,h.b.set (h.n % 64) c,h.n+1⟩
def HS.add (h:HS) (t:List UInt8):HS:=t.foldl HS.push h
theorem HS.add_nil (h:HS):h.add []=h:=rfl
theorem HS.add_cons (h:HS) (c:UInt8) (t:List UInt8):h.add (c :: t)=(h.push c).add t:=rfl
theorem HS.add_app (h:HS) (a b:List UInt8):(h.add a).add b=h.add (a++b):=by
 unfold HS.add
 rw[List.foldl_append]
theorem HS.add_len:∀ (t:List UInt8) (h:HS),(h.add t).b.length=h.b.length
 | [],h=>rfl
 | c :: t,h=>by rw[HS.add_cons,HS.add_len t];simp[HS.push]
theorem HS.add_n:∀ (t:List UInt8) (h:HS),(h.add t).n=h.n+t.length
 | [],h=>rfl
 | c :: t,h=>by rw[HS.add_cons,HS.add_n t];simp[HS.push];omega
def zG (b t:List UInt8) (at':Nat):List UInt8:=b.take at'++t++b.drop (at'+t.length)
theorem Hk {b t:List UInt8} {k:Nat} {c:UInt8} (hk:k < b.length):zG (b.set k c) t (k+1)=zG b (c :: t) k:=by
 unfold zG
 have e1:(b.set k c).take (k+1)=b.take k++[c]:=by
  rw[List.take_add_one,List.take_set_of_le (by omega)]
  simp[hk]
 have e2:(b.set k c).drop (k+1+t.length)=b.drop (k+(c :: t).length):=by
  rw[List.drop_set_of_lt (by omega)]
  congr 1
  simp;omega
 rw[e1,e2]
 simp
theorem HS.add_chunk:∀ (t:List UInt8) (h:HS),h.b.length=64→t≠[]→h.n % 64+t.length≤64 →
  h.add t=⟨if h.n % 64+t.length=64 then comp h.s (Be (zG h.b t (h.n % 64))) else h.s,zG h.b t (h.n % 64),h.n+t.length⟩
 | [],h,_,h0,_=>absurd rfl h0
 | [c],h,hb,_,hl=>by
  rw[HS.add_cons,HS.add_nil]
  unfold HS.push
  have e:h.b.set (h.n % 64) c=zG h.b [c] (h.n % 64):=by
   have:=Hk (b:=h.b) (t:=[]) (k:=h.n % 64) (c:=c) (by omega)
   rw[← this]
   unfold zG
   simp
  rw[e]
  simp only[List.length_cons,List.length_nil]
  congr 1
  by_cases h63:h.n % 64=63
  ·rw[if_pos h63,if_pos (by omega)]
  ·rw[if_neg h63,if_neg (by omega)]
 | c :: d :: t,h,hb,_,hl=>by
  simp only[List.length_cons] at hl
  rw[HS.add_cons]
  have e:h.push c=⟨h.s,h.b.set (h.n % 64) c,h.n+1⟩:=by
   unfold HS.push
   rw[if_neg (by omega)]
  rw[e,HS.add_chunk (d :: t) _ (by simp[hb]) (by simp) (by simp only[List.length_cons];omega)]
  have e2:(h.n+1) % 64=h.n % 64+1:=by omega
  simp only[e2]
  rw[Hk (by omega)]
  simp only[List.length_cons]
  congr 1
  ·by_cases hh:h.n % 64+(t.length+1+1)=64
   ·rw[if_pos hh,if_pos (by omega)]
   ·rw[if_neg hh,if_neg (by omega)]
  ·omega
theorem OX {b t:List UInt8} (h:b.length≤t.length):zG b t 0=t:=by
 unfold zG
 rw[List.drop_of_length_le (by omega)]
 simp
theorem HS.add_block (h:HS) (t:List UInt8) (hb:h.b.length=64) (hn:h.n % 64=0) (ht:t.length=64):h.add t=⟨comp h.s (Be t),t,h.n+64⟩:=by
 rw[HS.add_chunk t h hb (by intro e;rw[e] at ht;simp at ht) (by omega),hn,if_pos (by omega),OX (by omega),ht]
def iv:V8:=⟨1779033703,3144134277,1013904242,2773480762,1359893119,2600822924,528734635,1541459225⟩
def oJ:HS:=⟨iv,List.replicate 64 0,0⟩
def vY (m:List UInt8):V8:=(oJ.add m).s
theorem kW (m:List UInt8):(oJ.add m).b.length=64:=by rw[HS.add_len];simp[oJ]
theorem y4 (m:List UInt8):(oJ.add m).n=m.length:=by rw[HS.add_n];simp[oJ]
theorem Et {m:List UInt8} {t:Nat} (h:64 * t+64≤m.length):vY (m.take (64 * (t+1)))=comp (vY (m.take (64 * t))) (Be ((m.drop (64 * t)).take 64)):=by
 unfold vY
 rw[show 64 * (t+1)=64 * t+64 by omega,List.take_add,← HS.add_app,HS.add_block _ _ (kW _) (by rw[y4];simp;omega) (by simp;omega)]
def jA (n:Nat):Nat:=(119 - n % 64) % 64
def EP (n:Nat) (i:Nat):UInt8:=kF ((IntKind.u64.wrap (8 * (n:Int))).fdiv (2 ^ (min (56 - 8 * i) IntKind.u64.bits)))
def Eu (n:Nat):List UInt8:=(List.range 8).map (EP n)
def jQ (n:Nat):List UInt8:=128 :: List.replicate (jA n) 0++Eu n
theorem Fy (n:Nat):jA n < 64:=by unfold jA;omega
theorem K9 (n:Nat):(n+(1+jA n)) % 64=56:=by unfold jA;omega
theorem Hl {n j:Nat} (h:j < jA n):(n+(1+j)) % 64≠56:=by unfold jA at h;omega
theorem MO (n:Nat):(Eu n).length=8:=by simp[Eu]
theorem wW (n:Nat):(jQ n).length=jA n+9:=by simp[jQ,MO]
theorem Hm (n:Nat):(n+(jQ n).length) % 64=0:=by rw[wW];unfold jA;omega
def Hn (s:V8) (i:Nat):UInt8:=kF ((s.l.getD (i / 4) 0).fdiv (2 ^ (min (24 - 8 * (i % 4)) IntKind.u32.bits)))
def Br (s:V8):List UInt8:=(List.range 32).map (Hn s)
theorem OY (s:V8):(Br s).length=32:=by simp[Br]
def jR (m:List UInt8):List UInt8:=Br (vY (m++jQ m.length))
-- streams as values
def HS.l (h:HS):List SV:=h.s.l.map u32++(aB h.b++[.int .u64 (h.n:Int)])
theorem HS.l_len {h:HS} (hb:h.b.length=64):h.l.length=73:=by
 unfold HS.l
 simp[V8.l,aA,hb]
theorem HS.l_n {h:HS} (hb:h.b.length=64):h.l[72]?=some (.int .u64 (h.n:Int)):=by
 unfold HS.l
 rw[List.getElem?_append_right (by simp[V8.l]),List.getElem?_append_right (by simp[V8.l,aA,hb])]
 simp[V8.l,aA,hb]
theorem HS.l_s {h:HS} {q:Nat} (hq:q < 8):h.l[q]?=some (.int .u32 (h.s.l.getD q 0)):=by
 unfold HS.l
 have hl:h.s.l.length=8:=rfl
 rw[List.getElem?_append_left (by simp[hl,hq])]
 simp[List.getD_eq_getElem?_getD,hl,hq,u32]
theorem HS.l_take {h:HS} (hb:h.b.length=64):List.take 73 h.l=h.l:=List.take_of_length_le (by rw[HS.l_len hb];omega)
theorem Ho:∀ b:List Int,SV.flatL (b.map u32)=true
 | []=>rfl
 | n :: b=>by simp only[List.map_cons,SV.flatL,u32,SV.flat,Bool.true_and];exact Ho b
theorem qF:∀ {a b:List SV},SV.flatL a=true→SV.flatL b=true→SV.flatL (a++b)=true
 | [],b,_,h=>h
 | x :: a,b,h1,h2=>by
  simp only[List.cons_append,SV.flatL,Bool.and_eq_true] at h1 ⊢
  exact⟨h1.1,qF h1.2 h2⟩
theorem HS.l_flat (h:HS):SV.flatL h.l=true:=by
 unfold HS.l
 exact qF (Ho _) (qF (aX _) rfl)
theorem HS.l_ren (η:Nat→Nat × Nat) (h:HS):SV.renL η h.l=h.l:=SV.flatL_ren η _ (HS.l_flat h)
def MP:List SV→Option HS
 | .int .u32 a :: .int .u32 b :: .int .u32 c :: .int .u32 d :: .int .u32 e :: .int .u32 f :: .int .u32 g :: .int .u32 h :: r=>match rQ (r.take 64),r.drop 64 with
  | some bl,[.int .u64 (.ofNat n)]=>some ⟨⟨a,b,c,d,e,f,g,h⟩,bl,n⟩
  | _,_=>none
 | _=>none
theorem OZ {h:HS} (hb:h.b.length=64):MP h.l=some h:=by
 obtain⟨⟨a,b,c,d,e,f,g,k⟩,bl,n⟩:=h
 simp only at hb
 unfold HS.l
 simp only[V8.l,u32,MP,BB]
 rw[List.take_left' (by simp[aA,hb]),List.drop_left' (by simp[aA,hb]),aT]
theorem Ev {l:List SV} {h:HS} (hh:MP l=some h):l=h.l:=by
 unfold MP at hh
 split at hh
 ·rename_i a b c d e f g k r
  split at hh
  ·rename_i bl n hb hd
   cases hh
   unfold HS.l
   simp only[V8.l,u32,BB]
   have:=b8 hb
   rw[← this]
   have e2:r=r.take 64++r.drop 64:=(List.take_append_drop 64 r).symm
   rw[hd] at e2
   rw[show ((n:Nat):Int)=Int.ofNat n from rfl,← e2]
  ·cases hh
 ·cases hh
theorem f52:Fun Tryz.prog tS 150 [] [] 0 (.agg oJ.l) [] 0:=by
 refine bT none cF bI Wx (Nat.le_of_ble_eq_true rfl) (fun η=>by simp only[SV.ren,HS.l_ren]) ?_
 conv in aJ _ _=>(reduce;simp only[aH,seval])
 rw[aQ]
 simp only[eq_self,gV,↓eG,↓dY,Opd.ev,Sx.get,put,bQ,fF,aU,rd,bC,aF,SV.cells?,SV.one,dX,BB,↓PB,seval]
 rfl
def Ka:List (FuncId × GS):=[(167,XO)]
theorem O0:∀ x∈Ka,dQ Tryz.prog tH x.1 x.2:=by
 intro x hx
 simp only[Ka,List.mem_cons,List.not_mem_nil,or_false] at hx
 subst hx
 exact U0
def Zm:bG:=dR Ka cF
theorem O1:∀ f a m n K,Zm f a m n K→aY Tryz.prog tH f a m n K:=bA O0 bI
theorem fG {a b c d:List SV} {k:Nat} (hk:k=a.length) (hd:d.length=b.length):aF (a++(b++c)) k d=a++(d++c):=by
 unfold aF
 subst hk
 rw[List.take_left,List.append_assoc,hd,← List.append_assoc a b c,← List.length_append,List.drop_left]
theorem XP (s:V8):(s.l.map u32).length=8:=rfl
theorem Zn {s s':V8} {b:List UInt8} {n:Nat}:aF (HS.mk s b n).l 0 (s'.l.map u32)=(HS.mk s' b n).l:=by
 unfold HS.l
 have:=fG (a:=[]) (b:=s.l.map u32) (c:=aB b++[.int .u64 (n:Int)]) (k:=0) (d:=s'.l.map u32) rfl rfl
 simpa using this
theorem V8.l_len (s:V8):s.l.length=8:=rfl
theorem XQ {s:V8} {b:List UInt8} {n n':Nat} (hb:b.length=64):aF (HS.mk s b n).l 72 [.int .u64 (n':Int)]=(HS.mk s b n').l:=by
 unfold HS.l
 have:=fG (a:=s.l.map u32++aB b) (b:=[.int .u64 (n:Int)]) (c:=[]) (k:=72) (d:=[.int .u64 (n':Int)]) (by simp[V8.l_len,aA,hb]) rfl
 simpa using this
theorem U1 {s:V8} {b t:List UInt8} {n k:Nat} (hb:b.length=64) (hk:k+t.length≤64):aF (HS.mk s b n).l (8+k) (aB t)=(HS.mk s (zG b t k) n).l:=by
 unfold HS.l zG
 have e:aB b=aB (b.take k)++(aB ((b.drop k).take t.length)++aB (b.drop (k+t.length))):=by
  simp only[cE]
  congr 1
  rw[← List.drop_drop,List.take_append_drop,List.take_append_drop]
 have:=fG (a:=s.l.map u32++aB (b.take k)) (b:=aB ((b.drop k).take t.length)) (c:=aB (b.drop (k+t.length))++[.int .u64 (n:Int)]) (k:=8+k) (d:=aB t)
  (by simp[V8.l_len,aA,hb];omega) (by simp[aA,hb];omega)
 simp only
 rw[e,← cE,← cE]
 simp only[List.append_assoc] at this ⊢
 exact this
theorem Zo {h:HS}:List.take 8 h.l=h.s.l.map u32:=by
 unfold HS.l
 exact List.take_left' rfl
theorem Zp {s:V8} {b:List UInt8} {n:Nat} (hb:b.length=64):List.take 64 (List.drop 8 (HS.mk s b n).l)=aB b:=by
 unfold HS.l
 simp only
 rw[List.drop_left' (XP s),List.take_left' (by simp[aA,hb])]
theorem O2 {b t:List UInt8} {k:Nat} (hb:b.length=64) (hk:k+t.length≤64):(zG b t k).length=64:=by
 unfold zG;simp;omega
theorem Kb {n:Nat} (h:n < 2 ^ 60):IntKind.i64.wrap (Int.tmod (n:Int) 64)=((n % 64:Nat):Int):=by
 have e:Int.tmod (n:Int) 64=((n % 64:Nat):Int):=(Int.ofNat_tmod n 64).symm
 rw[e,aD (by omega) (by omega)]
def Vn:HS:=⟨⟨0,0,0,0,0,0,0,0⟩,List.replicate 64 0,0⟩
theorem U2 {s:V8} {b:List UInt8} {cap:Option Nat} (hb:b.length=64) (hc:jO cap 64=true) :
  XO [.agg [.int .u32 s.a,.int .u32 s.b,.int .u32 s.c,.int .u32 s.d,.int .u32 s.e,.int .u32 s.f,.int .u32 s.g,.int .u32 s.h],.slc 0 0 1 64 cap] [(0,⟨.view,aB b⟩)]=some (.agg ((comp s (Be b)).l.map u32),[],1):=by
 unfold XO
 simp only
 rw[← OW,AR]
 simp only[K8,hb,hc]
theorem f53 (h:HS) (t:List UInt8) (hb:h.b.length=64) (hn:h.n+t.length < 2 ^ 60):Fun Tryz.prog tH 151 [.agg h.l,.str t] [] 0 (.agg (h.add t).l) [] 0:=by
 refine bT none Zm O1 Wy (Nat.le_of_ble_eq_true rfl) (fun η=>by simp only[SV.ren,HS.l_ren]) ?_
 conv in aJ _ _=>(reduce;simp only[aH,seval])
 rw[aQ]
 have hl:=HS.l_len hb
 have ht:=HS.l_take hb
 have rH:∀ η (h:HS),SV.renL η h.l=h.l:=HS.l_ren
 have hzl:Vn.l.length=73:=HS.l_len rfl
 simp only[Zm,Ka,eq_self,gV,Opd.ev,Sx.get,put,bQ,fF,aU,SV.cells?,BB,↓PB,seval]
 rw[aL]
 refine bF O1 (σ:=HS × List UInt8) (fun x=>[(4,.ptr 1 0),(2,.ptr 0 0),(1,.str x.2)]) (fun x=>[(1,⟨.own 151,Vn.l⟩),(0,⟨.own 151,x.1.l⟩)]) (fun _=>2)
  (fun x=>x.1.b.length=64∧x.1.n+x.2.length < 2 ^ 60∧x.1.add x.2=h.add t) (fun x=>x.2.length) (h,t) ?_ ⟨hb,hn,rfl⟩ ?_
 ·exact⟨[(0,0),(1,0)],by simp only[rH,dS,aK,aM,aG,bB,b7,rd,Kind.isOwn,exists_eq_left',ne_eq,implies_true,false_imp_iff,forall_const,forall_eq,BB,seval];rfl,by simp[dI,eX,bB,SV.ren,BB,seval]⟩
 ·rintro⟨⟨s,b,n⟩,u⟩ ⟨hb',hn',hx⟩
  simp only at hb' hn' hx ⊢
  have hl':=HS.l_len (h:=⟨s,b,n⟩) hb'
  have ht':=HS.l_take (h:=⟨s,b,n⟩) hb'
  have hg':=HS.l_n (h:=⟨s,b,n⟩) hb'
  by_cases h0:u=[]
  ·subst h0
   simp only[hl',ht',hzl,eq_self,↓nX,↓dY,Opd.ev,Sx.get,put,bQ,fF,aU,rd,bC,SV.cells?,dX,BB,↓PB,seval]
   have hx2:HS.mk s b n=h.add t:=hx
   rw[← hx2]
   rw[show aF Vn.l 0 (HS.mk s b n).l=(HS.mk s b n).l by
    have:=fG (a:=[]) (b:=Vn.l) (c:=[]) (k:=0) (d:=(HS.mk s b n).l) rfl (by rw[hzl,hl'])
    simpa using this]
   exact⟨by omega,ht'⟩
  ·have hu:0 < u.length:=List.length_pos_iff.mpr h0
   have hnn:n < 2 ^ 60:=by omega
   have e1:=Kb (n:=n) hnn
   have hbeq:(u==[])=false:=by cases u with
    | nil=>exact absurd rfl h0
    | cons x y=>rfl
   have ha:n % 64 < 64:=Nat.mod_lt _ (by decide)
   have hch:=HS.add_chunk (u.take (min u.length (64 - n % 64))) ⟨s,b,n⟩ hb' (fun e=>by
     have h1:(u.take (min u.length (64 - n % 64))).length=0:=by rw[e];rfl
     rw[List.length_take] at h1;omega) (by simp only[List.length_take];omega)
   have hsp:(u.take (min u.length (64 - n % 64)))++u.drop (min u.length (64 - n % 64))=u:=List.take_append_drop _ _
   generalize hat:n % 64=a at *
   generalize hk:min u.length (64 - a)=k at *
   have k1:0 < k:=by omega
   have k2:k≤u.length:=by omega
   have k3:a+k≤64:=by omega
   have tl:(u.take k).length=k:=by simp;omega
   have bt:List.take k (aB u)=aB (u.take k):=by simp[aB,List.map_take]
   have lo:=U1 (s:=s) (b:=b) (t:=u.take k) (n:=n) (k:=a) hb' (by omega)
   have hb2:=O2 (b:=b) (t:=u.take k) (k:=a) hb' (by omega)
   generalize hb2e:zG b (u.take k) a=b2 at *
   have hg2:=HS.l_n (h:=⟨s,b2,n⟩) hb2
   have l72:=XQ (s:=s) (b:=b2) (n:=n) (n':=n+k) hb2
   have hl2:=HS.l_len (h:=⟨s,b2,n⟩) hb2
   have hl3:=HS.l_len (h:=⟨s,b2,n+k⟩) hb2
   have wk:IntKind.u64.wrap (k:Int)=(k:Int):=by rw[show IntKind.u64.wrap (k:Int)=(k:Int) % 18446744073709551616 by simp[IntKind.wrap,IntKind.bits,IntKind.signed]];omega
   have wn:IntKind.u64.wrap ((n:Int)+(k:Int))=((n+k:Nat):Int):=by rw[show IntKind.u64.wrap ((n:Int)+(k:Int))=((n:Int)+(k:Int)) % 18446744073709551616 by simp[IntKind.wrap,IntKind.bits,IntKind.signed]];omega
   have wa:IntKind.i64.wrap ((a:Int)+(k:Int))=((a+k:Nat):Int):=by rw[aD (by omega) (by omega)];omega
   have ht8:List.take 8 (HS.mk s b2 (n+k)).l=[.int .u32 s.a,.int .u32 s.b,.int .u32 s.c,.int .u32 s.d,.int .u32 s.e,.int .u32 s.f,.int .u32 s.g,.int .u32 s.h]:=Zo
   have hd8:=Zp (s:=s) (b:=b2) (n:=n+k) hb2
   have dk:List.take (u.length - k) (List.drop k u)=List.drop k u:=List.take_of_length_le (by simp)
   have rw3:∀ η (s:V8),SV.renL η (s.l.map u32)=s.l.map u32:=fun η s=>DM η _
   by_cases JI:a+k=64
   ·have c64:(((a+k:Nat):Int)==64)=true:=by simp;omega
    simp only[hl',hg',e1,hk,bt,lo,hg2,l72,hl2,hl3,wk,wn,wa,ht8,hd8,c64,hbeq,dk,rw3,Zn,↓U2 (cap:=some 64) hb2 rfl,SV.flatL,SV.flat,g9,eq_self,↓cL,↓nX,oZ,Opd.ev,Sx.get,put,bQ,fF,aU,iZ,fH,bM,jJ,eD,dW,rd,bC,SV.cells?,SV.one,j5,hH,yQ,dT,CF,yR,SV.ren,cQ,bZ,qM,Kind.isOwn,BB,↓PB,seval]
    refine⟨by omega,by omega,by omega,by omega,by omega,by omega,rfl,(⟨comp s (Be b2),b2,n+k⟩,u.drop k),⟨[(0,0),(1,0)],by simp only[rH,dS,aK,aM,aG,bB,b7,rd,Kind.isOwn,exists_eq_left',ne_eq,implies_true,false_imp_iff,forall_const,forall_eq,BB,seval],by simp[dI,eX,bB,SV.ren,BB,seval]⟩,⟨hb2,by simp only[List.length_drop];omega,?_⟩,by simp only[List.length_drop];omega⟩
    rw[tl,if_pos JI] at hch
    simp only at hch ⊢
    rw[← hch,HS.add_app,hsp]
    exact hx
   ·have c64:(((a+k:Nat):Int)==64)=false:=by simp;omega
    simp only[hl',hg',e1,hk,bt,lo,hg2,l72,hl2,wk,wn,wa,c64,hbeq,dk,eq_self,↓cL,↓nX,Opd.ev,Sx.get,put,bQ,fF,aU,rd,bC,SV.cells?,SV.one,BB,↓PB,seval]
    refine⟨by omega,by omega,by omega,by omega,by omega,by omega,(⟨s,b2,n+k⟩,u.drop k),⟨[(0,0),(1,0)],by simp only[rH,dS,aK,aM,aG,bB,b7,rd,Kind.isOwn,exists_eq_left',ne_eq,implies_true,false_imp_iff,forall_const,forall_eq,BB,seval],by simp[dI,eX,bB,SV.ren,BB,seval]⟩,⟨hb2,by simp only[List.length_drop];omega,?_⟩,by simp only[List.length_drop];omega⟩
    rw[tl,if_neg JI] at hch
    simp only at hch ⊢
    rw[← hch,HS.add_app,hsp]
    exact hx
def o7 (m:List UInt8) (j:Nat):List UInt8:=m++(128 :: List.replicate j 0)
def zH (m:List UInt8) (i:Nat):List UInt8:=o7 m (jA m.length)++(List.range i).map (EP m.length)
theorem uJ (m:List UInt8) (j:Nat):(o7 m j).length=m.length+1+j:=by simp[o7];omega
theorem Hp (m:List UInt8) (i:Nat):(zH m i).length=m.length+1+jA m.length+i:=by simp[zH,uJ]
theorem Ew (m:List UInt8) (j:Nat):o7 m j++[0]=o7 m (j+1):=by
 unfold o7
 rw[List.append_assoc,List.cons_append,List.replicate_succ']
theorem MQ (m:List UInt8) (i:Nat):zH m i++[EP m.length i]=zH m (i+1):=by
 unfold zH
 rw[List.append_assoc,List.range_succ,List.map_append];rfl
theorem U3 (m:List UInt8):zH m 0=o7 m (jA m.length):=by simp[zH]
theorem O3 (m:List UInt8):zH m 8=m++jQ m.length:=by simp[zH,o7,jQ,Eu]
theorem f88 (m:List UInt8) (hm:m.length≤2 ^ 38) (cap:Option Nat) (hcap:o5 cap m.length):Fun Tryz.prog tS 163 [.slc 0 0 1 m.length cap] [(0,⟨.view,aB m⟩)] 1 (.slc 1 0 1 (m++jQ m.length).length none) [(1,⟨.own 5,aB (m++jQ m.length)⟩)] 2:=by
 refine aR none cF bI XG (Nat.le_of_ble_eq_true rfl) (by decide) ?_
 conv in aJ _ _=>(reduce;simp only[aH,UInt8.reduceOfNat,Int.reduceOfNat,Int.reduceNegSucc])
 rw[aQ]
 simp (maxSteps:=1000000) only [reduceCtorEq,Nat.reduceEqDiff,Nat.reduceAdd,eq_self,gV,↓reduceIte,↓eG,Opd.ev,Sx.get,put,bQ,fF,aU,rd,rm,aF,SV.cells?,SV.one,BB,↓PB]
 have w0:(128:UInt8).toNat=128:=rfl
 have e0:aB m++[SV.int .u8 128]=aB (o7 m 0):=by simp only[o7,List.replicate_zero,← cE];rfl
 have es:∀ j,aB (o7 m j)++[SV.int .u8 0]=aB (o7 m (j+1)):=fun j=>by rw[← Ew,← cE];rfl
 rw[e0]
 refine⟨by omega,by omega,by omega,by omega,?_⟩
 rw[aL]
 refine bF bI (σ:=Nat) (fun j=>[(3,.slc 1 0 1 (m.length+1+j) none),(0,.slc 0 0 1 m.length cap)]) (fun j=>[(1,⟨.own 5,aB (o7 m j)⟩),(0,⟨.view,aB m⟩)]) (fun _=>2)
  (fun j=>j≤jA m.length) (fun j=>jA m.length - j) 0 ?_ (Nat.zero_le _) ?_
 ·exact⟨[(0,0),(4,0)],by simp[dS,aK,aM,aG,bB,b7,rd,Nat.reduceAdd,Nat.reduceLeDiff,↓reduceIte,Kind.isOwn,exists_eq_left',ne_eq,implies_true,forall_const,reduceCtorEq,forall_eq,BB],by simp[dI,eX,bB,SV.ren,Nat.reduceAdd,Nat.reduceLeDiff,↓reduceIte,reduceCtorEq,BB]⟩
 ·intro j hj
  have hz:=Fy m.length
  have r1:Int.tmod ((m.length+1+j:Nat):Int) 64=(((m.length+1+j) % 64:Nat):Int):=(Int.ofNat_tmod _ 64).symm
  have r2:=Kb (n:=m.length+1+j) (by omega)
  have tk:List.take (m.length+1+j) (aB (o7 m j))=aB (o7 m j):=List.take_of_length_le (by rw[aA,uJ];omega)
  have ln:(o7 m j).length=m.length+1+j:=uJ m j
  by_cases hj2:j < jA m.length
  ·have c:((((m.length+1+j) % 64:Nat):Int) != 56)=true:=by
    have:=Hl hj2
    rw[show m.length+1+j=m.length+(1+j) by omega]
    simp;omega
   simp (maxSteps:=1000000) only [r1,c,tk,ln,es,reduceCtorEq,Nat.reduceEqDiff,Nat.reduceAdd,Int.reduceNe,eq_self,↓reduceIte,↓cL,↓eG,Opd.ev,Sx.get,put,bQ,fF,aU,rd,rm,aF,SV.cells?,SV.one,BB,↓PB]
   exact⟨by omega,by omega,j+1,⟨[(0,0),(3,0)],by simp[dS,aK,aM,aG,bB,b7,rd,Nat.reduceAdd,Nat.reduceLeDiff,↓reduceIte,Kind.isOwn,exists_eq_left',ne_eq,implies_true,forall_const,reduceCtorEq,forall_eq,BB],by simp[Nat.add_assoc,dI,eX,bB,SV.ren,Nat.reduceAdd,Nat.reduceLeDiff,↓reduceIte,reduceCtorEq,BB]⟩,by omega,by omega⟩
  ·obtain rfl:j=jA m.length:=by omega
   have c:((((m.length+1+jA m.length) % 64:Nat):Int) != 56)=false:=by
    have:=K9 m.length
    rw[show m.length+1+jA m.length=m.length+(1+jA m.length) by omega]
    simp;omega
   simp (maxSteps:=1000000) only [r1,c,reduceCtorEq,Nat.reduceEqDiff,Int.reduceNe,eq_self,↓reduceIte,↓cL,Opd.ev,Sx.get,put,bQ,fF,aU,BB,↓PB]
   have wl:IntKind.u64.wrap (m.length:Int)=(m.length:Int):=by rw[show IntKind.u64.wrap (m.length:Int)=(m.length:Int) % 18446744073709551616 by simp[IntKind.wrap,IntKind.bits,IntKind.signed]];omega
   rw[wl,← U3]
   generalize hN:IntKind.u64.wrap (8 * (m.length:Int))=N
   rw[aL]
   refine bF bI (σ:=Nat) (fun i=>[(5,.int .i64 (i:Int)),(4,.int .u64 N),(3,.slc 1 0 1 (m.length+1+jA m.length+i) none)]) (fun i=>[(1,⟨.own 5,aB (zH m i)⟩)]) (fun _=>2)
    (fun i=>i≤8) (fun i=>8 - i) 0 ?_ (Nat.zero_le _) ?_
   ·exact⟨[(0,0),(1,0)],by simp[dS,aK,aM,aG,bB,b7,rd,Nat.reduceAdd,Nat.reduceLeDiff,↓reduceIte,Kind.isOwn,exists_eq_left',ne_eq,implies_true,forall_const,BB],by simp[dI,eX,bB,SV.ren,Nat.reduceAdd,Nat.reduceEqDiff,Nat.reduceLeDiff,↓reduceIte,BB]⟩
   ·intro i hi
    have tk2:List.take (m.length+1+jA m.length+i) (aB (zH m i))=aB (zH m i):=List.take_of_length_le (by rw[aA,Hp];omega)
    have ln2:(zH m i).length=m.length+1+jA m.length+i:=Hp m i
    by_cases h8:i < 8
    ·have c1:(i:Int) < 8:=by omega
     have v1:IntKind.i64.wrap (8 * (i:Int))=((8 * i:Nat):Int):=by rw[aD (by omega) (by omega)];omega
     have v2:IntKind.i64.wrap (56 - ((8 * i:Nat):Int))=((56 - 8 * i:Nat):Int):=by rw[aD (by omega) (by omega)];omega
     have v3:(0:Int)≤((56 - 8 * i:Nat):Int):=by omega
     have v4:IntKind.i64.wrap ((i:Int)+1)=((i+1:Nat):Int):=by rw[aD (by omega) (by omega)];omega
     have eb:aB (zH m i)++[SV.int .u8 (IntKind.u8.wrap (N.fdiv (2 ^ (min (56 - 8 * i) IntKind.u64.bits))))]=aB (zH m (i+1)):=by
      rw[← MQ,← iT,nL]
      unfold EP
      rw[hN]
     simp (maxSteps:=1000000) only [c1,v1,v2,v3,v4,tk2,ln2,eb,Nat.reduceEqDiff,Nat.reduceAdd,eq_self,↓reduceIte,↓cL,↓eG,Opd.ev,Sx.get,put,bQ,fF,aU,rd,rm,aF,SV.cells?,SV.one,BB,↓PB]
     exact⟨by omega,by omega,i+1,⟨[(0,0),(3,0)],by simp[dS,aK,aM,aG,bB,b7,rd,Nat.reduceAdd,Nat.reduceLeDiff,↓reduceIte,Kind.isOwn,exists_eq_left',ne_eq,implies_true,forall_const,BB],by simp[Nat.add_assoc,dI,eX,bB,SV.ren,Nat.reduceAdd,Nat.reduceEqDiff,Nat.reduceLeDiff,↓reduceIte,BB]⟩,by omega,by omega⟩
    ·obtain rfl:i=8:=by omega
     simp (maxSteps:=1000000) only [Nat.reduceEqDiff,Int.reduceLT,eq_self,↓reduceIte,↓cL,↓dY,Opd.ev,Sx.get,put,bQ,fF,aU,dX,bB,SV.ren,BB,↓PB]
     rw[← ln2,O3]
     exact⟨[(0,0),(1,0)],by simp[dS,aK,aM,aG,bB,b7,rd,Nat.reduceAdd,Nat.reduceLeDiff,↓reduceIte,Kind.isOwn,exists_eq_left',ne_eq,implies_true,forall_const,BB],by simp[Nat.reduceAdd,Nat.reduceLeDiff,BB]⟩
def O4:GS
 | [.slc 0 0 1 len cap],[(0,⟨.view,cells⟩)]=>match rQ cells with
  | some m=>match jO cap m.length with
   | true=>if len=m.length∧m.length≤2 ^ 38 then some (.slc 1 0 1 (m++jQ m.length).length none,[(1,⟨.own 5,aB (m++jQ m.length)⟩)],2) else none
   | _=>none
  | none=>none
 | _,_=>none
theorem Rd:dQ Tryz.prog tS 163 O4:=by
 intro a0 m0 r m1 n1 h
 unfold O4 at h
 split at h
 ·split at h
  ·rename_i m hm
   split at h
   ·rename_i hcap
    split at h
    ·rename_i hc
     cases h
     obtain⟨rfl,h2⟩:=hc
     rw[b8 hm]
     exact⟨f88 m h2 _ (nM hcap),by simp[dA]⟩
    ·cases h
   ·cases h
  ·cases h
 ·cases h
def MR:List SV→Option SV
 | [.agg l,.str t]=>match MP l with
  | some h=>if h.b.length=64∧h.n+t.length < 2 ^ 60 then some (.agg (h.add t).l) else none
  | none=>none
 | _=>none
theorem CJ {h:HS} {t:List UInt8} (hb:h.b.length=64) (hn:h.n+t.length < 2 ^ 60):MR [.agg h.l,.str t]=some (.agg (h.add t).l):=by
 simp only[MR]
 rw[OZ hb]
 simp only
 rw[if_pos ⟨hb,hn⟩]
def BG:Tab:=⟨[(151,MR)],[]⟩
theorem uK:TabX Tryz.prog tH BG:=by
 refine⟨fun x h args r hr=>?_,fun x h=>by simp[BG] at h⟩
 simp only[BG,List.mem_singleton] at h
 subst h
 simp only at hr
 unfold MR at hr
 split at hr
 ·split at hr
  ·rename_i h hh
   split at hr
   ·rename_i hc
    cases hr
    rw[Ev hh]
    exact⟨f53 h _ hc.1 hc.2,fun η=>by simp only[SV.renL,SV.ren,HS.l_ren],fun η=>by simp only[SV.renL,SV.ren,HS.l_ren]⟩
   ·cases hr
  ·cases hr
 ·cases hr
def zI (n i:Nat):List UInt8:=o7 [] (jA n)++(List.range i).map (EP n)
theorem Hq (n i:Nat):(zI n i).length=1+jA n+i:=by simp[zI,uJ]
theorem U4 (n:Nat):zI n 0=o7 [] (jA n):=by simp[zI]
theorem MS (n i:Nat):zI n i++[EP n i]=zI n (i+1):=by
 unfold zI
 rw[List.append_assoc,List.range_succ,List.map_append];rfl
theorem O5 (n:Nat):zI n 8=jQ n:=by simp[zI,o7,jQ,Eu]
def oK (s:V8) (i:Nat):List SV:=aB ((List.range i).map (Hn s))++List.replicate (32 - i) (.int .u8 0)
def JN:List SV:=List.replicate 32 (.int .u8 0)
theorem O6 (s:V8):oK s 0=JN:=rfl
theorem Hr {s:V8} {i:Nat} (h:i≤32):(oK s i).length=32:=by simp[oK,aA];omega
theorem Hs (s:V8):oK s 32=aB (Br s):=by simp[oK,Br]
theorem Ht {s:V8} {i:Nat} (h:i < 32):aF (oK s i) i [SV.int .u8 (IntKind.u8.wrap ((s.l.getD (i / 4) 0).fdiv (2 ^ (min (24 - 8 * (i % 4)) IntKind.u32.bits))))]=oK s (i+1):=by
 rw[nL]
 unfold oK
 rw[show (32 - i)=(32 - (i+1))+1 by omega,List.replicate_succ]
 have:=fG (a:=aB ((List.range i).map (Hn s))) (b:=[.int .u8 0]) (c:=List.replicate (32 - (i+1)) (.int .u8 0)) (k:=i) (d:=[SV.byte (Hn s i)]) (by simp[aA]) rfl
 simp only[List.cons_append,List.nil_append] at this
 unfold Hn at this ⊢
 rw[this,List.range_succ,List.map_append,← cE,List.append_assoc]
 rfl
theorem MT {s:V8} {i:Nat}:SV.flatL (oK s i)=true:=by
 unfold oK
 refine qF (aX _) ?_
 generalize 32 - i=k
 induction k with
 | zero=>rfl
 | succ k ih=>rw[List.replicate_succ];simp only[SV.flatL,SV.flat,Bool.true_and];exact ih
theorem AS (η:Nat→Nat × Nat) (s:V8) (i:Nat):SV.renL η (oK s i)=oK s i:=SV.flatL_ren η _ MT
theorem f54 (h:HS) (hb:h.b.length=64) (hn:h.n < 2 ^ 58):Fun Tryz.prog tH 152 [.agg h.l] [] 0 (.agg (aB (Br (h.add (jQ h.n)).s))) [] 0:=by
 refine bT none (gT BG) (cN uK) Wz (Nat.le_of_ble_eq_true rfl) (fun η=>by simp only[SV.ren,aC]) ?_
 conv in aJ _ _=>(reduce;simp only[aH,UInt8.reduceOfNat,Int.reduceOfNat,Int.reduceNegSucc])
 rw[aQ]
 have hl:=HS.l_len hb
 have ht:=HS.l_take hb
 have hg:=HS.l_n hb
 have rH:∀ η (h:HS),SV.renL η h.l=h.l:=HS.l_ren
 have e0:[SV.int .u8 128]=aB (o7 [] 0):=rfl
 simp (maxSteps:=1000000) only [BG,hg,reduceCtorEq,Nat.reduceEqDiff,Nat.reduceAdd,eq_self,gV,↓reduceIte,↓cL,↓eG,Opd.ev,Sx.get,put,bQ,fF,aU,rd,aF,SV.cells?,SV.one,BB,↓PB]
 rw[e0]
 rw[aL]
 have hz:∀ η,SV.renL η JN=JN:=fun η=>AS η h.s 0
 have hzl:JN.length=32:=rfl
 have es:∀ j,aB (o7 [] j)++[SV.int .u8 0]=aB (o7 [] (j+1)):=fun j=>by rw[← Ew,← cE];rfl
 have wn:IntKind.i64.wrap (h.n:Int)=(h.n:Int):=aD (by omega) (by omega)
 generalize hN:IntKind.u64.wrap (8 * (h.n:Int))=N
 have hpz:=Fy h.n
 refine bF (cN uK) (σ:=Nat) (fun j=>[(4,.slc 2 0 1 (1+j) none),(3,.int .u64 N),(2,.ptr 1 0),(1,.ptr 0 0)]) (fun j=>[(2,⟨.own 5,aB (o7 [] j)⟩),(1,⟨.own 141,JN⟩),(0,⟨.own 151,h.l⟩)]) (fun _=>3)
  (fun j=>j≤jA h.n) (fun j=>jA h.n - j) 0 ?_ (Nat.zero_le _) ?_
 ·exact⟨[(0,0),(1,0),(2,0)],by simp only[rH,hz,dS,aK,aM,aG,bB,b7,rd,Nat.reduceAdd,Nat.reduceSub,Nat.reduceLT,Nat.reduceLeDiff,↓reduceIte,Kind.isOwn,exists_eq_left',ne_eq,implies_true,false_imp_iff,forall_const,reduceCtorEq,forall_eq_or_imp,forall_eq,BB] <;> rfl,by simp[dI,eX,bB,SV.ren,Nat.reduceAdd,Nat.reduceEqDiff,Nat.reduceLT,Nat.reduceLeDiff,↓reduceIte,BB]⟩
 ·intro j hj
  have wj:IntKind.i64.wrap ((h.n:Int)+((1+j:Nat):Int))=((h.n+(1+j):Nat):Int):=by rw[aD (by omega) (by omega)];omega
  have r1:Int.tmod ((h.n+(1+j):Nat):Int) 64=(((h.n+(1+j)) % 64:Nat):Int):=(Int.ofNat_tmod _ 64).symm
  have tk:List.take (1+j) (aB (o7 [] j))=aB (o7 [] j):=List.take_of_length_le (by rw[aA,uJ];simp)
  have ln:(o7 [] j).length=1+j:=by rw[uJ];simp
  by_cases hj2:j < jA h.n
  ·have c:((((h.n+(1+j)) % 64:Nat):Int) != 56)=true:=by
    have:=Hl hj2
    simp;omega
   simp (maxSteps:=1000000) only [hg,wn,wj,r1,c,tk,ln,es,reduceCtorEq,Nat.reduceEqDiff,Nat.reduceAdd,Int.reduceNe,eq_self,↓reduceIte,↓cL,↓eG,Opd.ev,Sx.get,put,bQ,fF,aU,rd,rm,aF,SV.cells?,SV.one,BB,↓PB]
   exact⟨by omega,by omega,j+1,⟨[(0,0),(1,0),(4,0)],by simp only[rH,hz,dS,aK,aM,aG,bB,b7,rd,Nat.reduceAdd,Nat.reduceSub,Nat.reduceEqDiff,Nat.reduceLT,Nat.reduceLeDiff,↓reduceIte,Kind.isOwn,exists_eq_left',ne_eq,implies_true,false_imp_iff,forall_const,reduceCtorEq,forall_eq_or_imp,forall_eq,BB],by simp[Nat.add_assoc,dI,eX,bB,SV.ren,Nat.reduceAdd,Nat.reduceEqDiff,Nat.reduceLT,Nat.reduceLeDiff,↓reduceIte,BB]⟩,by omega,by omega⟩
  ·obtain rfl:j=jA h.n:=by omega
   have c:((((h.n+(1+jA h.n)) % 64:Nat):Int) != 56)=false:=by
    have:=K9 h.n
    simp;omega
   simp (maxSteps:=1000000) only [hg,wn,wj,r1,c,reduceCtorEq,Nat.reduceEqDiff,Int.reduceNe,eq_self,↓reduceIte,↓cL,Opd.ev,Sx.get,put,bQ,fF,aU,rd,BB,↓PB]
   rw[aL,← U4]
   refine bF (cN uK) (σ:=Nat) (fun i=>[(23,.int .i64 (i:Int)),(4,.slc 2 0 1 (1+jA h.n+i) none),(3,.int .u64 N),(2,.ptr 1 0),(1,.ptr 0 0)]) (fun i=>[(2,⟨.own 5,aB (zI h.n i)⟩),(1,⟨.own 141,JN⟩),(0,⟨.own 151,h.l⟩)]) (fun _=>3)
    (fun i=>i≤8) (fun i=>8 - i) 0 ?_ (Nat.zero_le _) ?_
   ·exact⟨[(0,0),(1,0),(2,0)],by simp only[rH,hz,dS,aK,aM,aG,bB,b7,rd,Nat.reduceAdd,Nat.reduceSub,Nat.reduceLT,Nat.reduceLeDiff,↓reduceIte,Kind.isOwn,exists_eq_left',ne_eq,implies_true,false_imp_iff,forall_const,reduceCtorEq,forall_eq_or_imp,forall_eq,BB],by simp[dI,eX,bB,SV.ren,Nat.reduceAdd,Nat.reduceEqDiff,Nat.reduceLT,Nat.reduceLeDiff,↓reduceIte,BB]⟩
   ·intro i hi
    have tk2:List.take (1+jA h.n+i) (aB (zI h.n i))=aB (zI h.n i):=List.take_of_length_le (by rw[aA,Hq];omega)
    have ln2:(zI h.n i).length=1+jA h.n+i:=Hq h.n i
    by_cases h8:i < 8
    ·have c1:(i:Int) < 8:=by omega
     have v1:IntKind.i64.wrap (8 * (i:Int))=((8 * i:Nat):Int):=by rw[aD (by omega) (by omega)];omega
     have v2:IntKind.i64.wrap (56 - ((8 * i:Nat):Int))=((56 - 8 * i:Nat):Int):=by rw[aD (by omega) (by omega)];omega
     have v3:(0:Int)≤((56 - 8 * i:Nat):Int):=by omega
     have v4:IntKind.i64.wrap ((i:Int)+1)=((i+1:Nat):Int):=by rw[aD (by omega) (by omega)];omega
     have eb:aB (zI h.n i)++[SV.int .u8 (IntKind.u8.wrap (N.fdiv (2 ^ (min (56 - 8 * i) IntKind.u64.bits))))]=aB (zI h.n (i+1)):=by
      rw[← MS,← iT,nL]
      unfold EP
      rw[hN]
     simp (maxSteps:=1000000) only [c1,v1,v2,v3,v4,tk2,ln2,eb,reduceCtorEq,Nat.reduceEqDiff,Nat.reduceAdd,eq_self,↓reduceIte,↓cL,↓eG,Opd.ev,Sx.get,put,bQ,fF,aU,rd,rm,aF,SV.cells?,SV.one,BB,↓PB]
     exact⟨by omega,by omega,i+1,⟨[(0,0),(1,0),(4,0)],by simp only[rH,hz,dS,aK,aM,aG,bB,b7,rd,Nat.reduceAdd,Nat.reduceSub,Nat.reduceEqDiff,Nat.reduceLT,Nat.reduceLeDiff,↓reduceIte,Kind.isOwn,exists_eq_left',ne_eq,implies_true,false_imp_iff,forall_const,reduceCtorEq,forall_eq_or_imp,forall_eq,BB],by simp[Nat.add_assoc,dI,eX,bB,SV.ren,Nat.reduceAdd,Nat.reduceEqDiff,Nat.reduceLT,Nat.reduceLeDiff,↓reduceIte,BB]⟩,by omega,by omega⟩
    ·obtain rfl:i=8:=by omega
     have hadd:=CJ (h:=h) (t:=jQ h.n) hb (by rw[wW];omega)
     rw[O5]
     have hpl:(jQ h.n).length=1+jA h.n+8:=by rw[wW];omega
     have tk3:List.take (1+jA h.n+8) (aB (jQ h.n))=aB (jQ h.n):=List.take_of_length_le (by rw[aA];omega)
     have hb2:(h.add (jQ h.n)).b.length=64:=by rw[HS.add_len,hb]
     have ht2:=HS.l_take hb2
     have hl2:=HS.l_len hb2
     have hfl:=HS.l_flat h
     have hfl2:=HS.l_flat (h.add (jQ h.n))
     have hsp:aF h.l 0 (h.add (jQ h.n)).l=(h.add (jQ h.n)).l:=by
      have:=fG (a:=[]) (b:=h.l) (c:=[]) (k:=0) (d:=(h.add (jQ h.n)).l) rfl (by rw[hl,hl2])
      simpa using this
     have mb:=bR (jQ h.n)
     have au:=dD (jQ h.n)
     simp (maxSteps:=1000000) only [hl,ht,tk3,hpl,↓hadd,hfl,hfl2,hl2,hsp,mb,au,SV.flatL,SV.flat,g9,reduceCtorEq,Nat.reduceEqDiff,Nat.reduceAdd,Int.reduceLT,eq_self,↓reduceIte,↓cL,Opd.ev,Sx.get,put,bQ,fF,aU,rd,bC,SV.cells?,BB,↓PB]
     rw[aL]
     generalize hge:h.add (jQ h.n)=g at *
     refine bF (cN uK) (σ:=Nat) (fun i=>[(40,.int .i64 (i:Int)),(6,.ptr 2 0),(2,.ptr 1 0),(1,.ptr 0 0)]) (fun i=>[(2,⟨.own 141,oK g.s i⟩),(1,⟨.own 141,JN⟩),(0,⟨.own 151,g.l⟩)]) (fun _=>3)
      (fun i=>i≤32) (fun i=>32 - i) 0 ?_ (Nat.zero_le _) ?_
     ·exact⟨[(0,0),(1,0),(3,0)],by simp only[rH,hz,O6,dS,aK,aM,aG,bB,b7,rd,Nat.reduceAdd,Nat.reduceSub,Nat.reduceEqDiff,Nat.reduceLT,Nat.reduceLeDiff,↓reduceIte,Kind.isOwn,exists_eq_left',ne_eq,implies_true,false_imp_iff,forall_const,reduceCtorEq,forall_eq_or_imp,forall_eq,BB] <;> rfl,by simp[dI,eX,bB,SV.ren,Nat.reduceAdd,Nat.reduceEqDiff,Nat.reduceLT,Nat.reduceLeDiff,↓reduceIte,BB]⟩
     ·intro i hi
      have rC:∀ η i,SV.renL η (oK g.s i)=oK g.s i:=fun η i=>AS η g.s i
      have lC:=Hr (s:=g.s) hi
      by_cases Lj:i < 32
      ·have c1:(i:Int) < 32:=by omega
       have c2:(0:Int)≤(i:Int):=by omega
       have q1:Int.tdiv (i:Int) 4=((i / 4:Nat):Int):=(Int.ofNat_tdiv i 4).symm
       have q2:Int.tmod (i:Int) 4=((i % 4:Nat):Int):=(Int.ofNat_tmod i 4).symm
       have q3:IntKind.i64.wrap ((i / 4:Nat):Int)=((i / 4:Nat):Int):=aD (by omega) (by omega)
       have q4:(0:Int)≤((i / 4:Nat):Int)∧((i / 4:Nat):Int) < 8:=by omega
       have hs:=HS.l_s (h:=g) (q:=i / 4) (by omega)
       have v1:IntKind.i64.wrap (8 * ((i % 4:Nat):Int))=((8 * (i % 4):Nat):Int):=by rw[aD (by omega) (by omega)];omega
       have v2:IntKind.i64.wrap (24 - ((8 * (i % 4):Nat):Int))=((24 - 8 * (i % 4):Nat):Int):=by rw[aD (by omega) (by omega)];omega
       have v3:(0:Int)≤((24 - 8 * (i % 4):Nat):Int):=by omega
       have v4:IntKind.i64.wrap ((i:Int)+1)=((i+1:Nat):Int):=by rw[aD (by omega) (by omega)];omega
       have op:=Ht (s:=g.s) Lj
       simp (maxSteps:=1000000) only [c1,c2,q1,q2,q3,q4.1,q4.2,hs,v1,v2,v3,v4,lC,op,reduceCtorEq,Nat.reduceEqDiff,Nat.reduceLeDiff,Int.reduceNe,eq_self,↓reduceIte,↓cL,Opd.ev,Sx.get,put,bQ,fF,aU,rd,bC,SV.cells?,SV.one,BB,↓PB]
       exact⟨by omega,i+1,⟨[(0,0),(1,0),(2,0)],by simp only[rH,hz,rC,dS,aK,aM,aG,bB,b7,rd,Nat.reduceAdd,Nat.reduceSub,Nat.reduceLT,Nat.reduceLeDiff,↓reduceIte,Kind.isOwn,exists_eq_left',ne_eq,implies_true,false_imp_iff,forall_const,reduceCtorEq,forall_eq_or_imp,forall_eq,BB],by simp[dI,eX,bB,SV.ren,Nat.reduceAdd,Nat.reduceEqDiff,Nat.reduceLT,Nat.reduceLeDiff,↓reduceIte,BB]⟩,by omega,by omega⟩
      ·obtain rfl:i=32:=by omega
       simp (maxSteps:=1000000) only [lC,reduceCtorEq,Nat.reduceEqDiff,Int.reduceLT,eq_self,↓reduceIte,↓cL,↓dY,Opd.ev,Sx.get,put,bQ,fF,aU,rd,bC,SV.cells?,dX,BB,↓PB]
       have tC:List.take 32 (oK g.s 32)=oK g.s 32:=List.take_of_length_le (by omega)
       have sC:aF JN 0 (oK g.s 32)=oK g.s 32:=by
        have:=fG (a:=[]) (b:=JN) (c:=[]) (k:=0) (d:=oK g.s 32) rfl (by rw[lC,hzl])
        simpa using this
       rw[tC,sC,tC]
       exact⟨lC,by omega,by omega,Hs g.s⟩
def MU:List SV→Option SV
 | [.agg l]=>match MP l with
  | some h=>if h.b.length=64∧h.n < 2 ^ 58 then some (.agg (aB (Br (h.add (jQ h.n)).s))) else none
  | none=>none
 | _=>none
theorem Kc {h:HS} (hb:h.b.length=64) (hn:h.n < 2 ^ 58):MU [.agg h.l]=some (.agg (aB (Br (h.add (jQ h.n)).s))):=by
 simp only[MU]
 rw[OZ hb]
 simp only
 rw[if_pos ⟨hb,hn⟩]
def Re:List SV→Option SV
 | []=>some (.agg oJ.l)
 | _=>none
def wX:Tab:=⟨[(150,Re),(151,MR),(152,MU)],[]⟩
theorem Ey:TabX Tryz.prog tH wX:=by
 refine⟨fun x h args r hr=>?_,fun x h=>by simp[wX] at h⟩
 simp only[wX,List.mem_cons,List.not_mem_nil,or_false] at h
 rcases h with rfl|rfl|rfl
 ·simp only at hr
  unfold Re at hr
  split at hr
  ·cases hr
   exact⟨f52,fun η=>by simp only[SV.renL],fun η=>by simp only[SV.renL,SV.ren,HS.l_ren]⟩
  ·cases hr
 ·exact uK.p (151,MR) (by simp[BG]) args r hr
 ·simp only at hr
  unfold MU at hr
  split at hr
  ·split at hr
   ·rename_i h hh
    split at hr
    ·rename_i hc
     cases hr
     rw[Ev hh]
     exact⟨f54 h hc.1 hc.2,fun η=>by simp only[SV.renL,SV.ren,HS.l_ren],fun η=>by simp only[SV.renL,SV.ren,aC]⟩
    ·cases hr
   ·cases hr
  ·cases hr
end Go.Proofs.YtmhkkalbijbplaaGreatDoor
