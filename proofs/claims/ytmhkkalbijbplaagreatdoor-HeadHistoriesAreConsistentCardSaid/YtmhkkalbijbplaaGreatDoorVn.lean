/- The proof, part Vn: MrA, MrB, MrC, MrD, MrE, MrF. -/
import Derived.Test.YtmhkkalbijbplaaGreatDoorVl
set_option linter.unusedSimpArgs false
set_option linter.unusedVariables false
set_option maxRecDepth 100000
set_option maxHeartbeats 16000000
namespace Go.Proofs.YtmhkkalbijbplaaGreatDoor
open Go Go.Sx
variable {tS:List (Nat × List SV)}
theorem SD:∀ f a m n K,gT wX f a m n K→aY Tryz.prog tH f a m n K:=cN Ey
theorem f99 (m:List UInt8) (hm:m.length < 2 ^ 40) (cap:Option Nat):Fun Tryz.prog tH 143 [.slc 0 0 1 m.length cap] [(0,⟨.view,aB m⟩)] 1 (.agg (aB (jR m))) [] 1:=by
 refine nN none (gT wX) SD Wt (Nat.le_of_ble_eq_true rfl) (fun η=>by simp only[SV.ren,aC]) ?_
 conv in aJ _ _=>(reduce;simp only[aH,UInt8.reduceOfNat,Int.reduceOfNat,Int.reduceNegSucc])
 rw[aQ]
 have tm:=a9 m
 have au:=dD m
 have mb:=bR m
 have g0:Re []=some (.agg oJ.l):=rfl
 have ga:=CJ (h:=oJ) (t:=m) rfl (by show 0+m.length < 2 ^ 60;omega)
 have gs:=Kc (h:=oJ.add m) (kW _) (by rw[y4];omega)
 rw[y4,HS.add_app] at gs
 have gs:MU [.agg (oJ.add m).l]=some (.agg (aB (jR m))):=gs
 have hx:=jS m
 generalize jR m=X at *
 have lX:(aB X).length=32:=by rw[aA,hx]
 have tX:List.take 32 (aB X)=aB X:=List.take_of_length_le (by omega)
 have hfl:=HS.l_flat
 have hl:=aA m
 simp (maxSteps:=1000000) only [wX,↓g0,↓ga,↓gs,tm,au,mb,hfl,lX,tX,hl,SV.flatL,SV.flat,g9,reduceCtorEq,Nat.reduceEqDiff,Nat.reduceAdd,eq_self,gV,↓reduceIte,↓dY,oZ,Opd.ev,Sx.get,put,bQ,fF,aU,iZ,fH,bM,jJ,eD,dW,rd,bC,aF,SV.cells?,SV.one,dX,BB,↓PB]
def IY:GS
 | [.slc 0 0 1 len _],[(0,⟨.view,cells⟩)]=>match rQ cells with
  | some m=>if len=m.length∧m.length≤2 ^ 37 then some (.agg (aB (jR m)),[],1) else none
  | none=>none
 | _,_=>none
theorem PX {m:List UInt8} {cap:Option Nat} (hm:m.length≤2 ^ 37):IY [.slc 0 0 1 m.length cap] [(0,⟨.view,aB m⟩)]=some (.agg (aB (jR m)),[],1):=by
 unfold IY
 simp only[aT]
 rw[if_pos ⟨trivial,hm⟩]
theorem PY:dQ Tryz.prog tH 143 IY:=by
 intro a0 m0 r m1 n1 h
 unfold IY at h
 split at h
 ·split at h
  ·rename_i m hm
   split at h
   ·rename_i hc
    cases h
    obtain⟨rfl,h2⟩:=hc
    rw[b8 hm]
    exact⟨f99 m (by omega) _,by simp[dA]⟩
   ·cases h
  ·cases h
 ·cases h
def IZ:List (FuncId × GS):=[(143,IY)]
theorem PZ:∀ x∈IZ,dQ Tryz.prog tH x.1 x.2:=by
 intro x hx
 simp only[IZ,List.mem_cons,List.not_mem_nil,or_false] at hx
 subst hx
 exact PY
theorem Ur:∀ f a m n K,dR IZ cF f a m n K→aY Tryz.prog tH f a m n K:=bA PZ bI
theorem Qt (m:List UInt8) (hm:m.length≤2 ^ 37) (cap:Option Nat):Fun Tryz.prog tH 107 [.slc 0 0 1 m.length cap] [(0,⟨.view,aB m⟩)] 1 (.agg (aB ((jR m).take 16))) [] 1:=by
 refine nN none (dR IZ cF) Ur W5 (Nat.le_of_ble_eq_true rfl) (fun η=>by simp only[SV.ren,aC]) ?_
 conv in aJ _ _=>(reduce;simp only[aH,UInt8.reduceOfNat,Int.reduceOfNat,Int.reduceNegSucc])
 rw[aQ]
 have tm:=a9 m
 have gs:=PX (cap:=cap) hm
 have hx:=jS m
 generalize jR m=X at *
 have lX:(aB X).length=32:=by rw[aA,hx]
 have t16:List.take 16 (aB X)=aB (X.take 16):=by simp[aB,List.map_take]
 have l16:(X.take 16).length=16:=by simp[hx]
 have lY:(aB (X.take 16)).length=16:=by rw[aA,l16]
 have tY:List.take 16 (aB (X.take 16))=aB (X.take 16):=List.take_of_length_le (by omega)
 have hl:=aA m
 simp (maxSteps:=1000000) only [IZ,↓gs,tm,lX,t16,lY,tY,hl,g9,reduceCtorEq,Nat.reduceEqDiff,Nat.reduceAdd,Nat.reduceSub,Nat.reduceLeDiff,Nat.reduceLT,Int.reduceToNat,Int.reduceLE,eq_self,gV,↓reduceIte,↓dY,Opd.ev,Sx.get,put,bQ,fF,aU,rd,bC,aF,SV.cells?,dX,j5,hH,yQ,dT,CF,yR,SV.ren,cQ,bZ,qM,Kind.isOwn,BB,↓PB]
def FN:List (FuncId × GS):=[(43,zJ)]
theorem M8:∀ x∈FN,dQ Tryz.prog tS x.1 x.2:=Hy
theorem GQ:∀ f a m n K,dR FN cF f a m n K→aY Tryz.prog tS f a m n K:=bA M8 bI
theorem Us (d:List UInt8) (hd:d.length=16) (cap:Option Nat):Fun Tryz.prog tS 108 [.int .u8 1,.slc 0 0 16 1 cap] [(0,⟨.view,aB d⟩)] 1 (.slc 1 0 1 (dV 1 [d]).length none) [(1,⟨.own 5,aB (dV 1 [d])⟩)] 2:=by
 refine aR none (dR FN cF) GQ TY (Nat.le_of_ble_eq_true rfl) (by decide) ?_
 conv in aJ _ _=>(reduce;simp only[aH,UInt8.reduceOfNat,Int.reduceOfNat,Int.reduceNegSucc])
 rw[aQ]
 simp (maxSteps:=1000000) only [FN,reduceCtorEq,Nat.reduceEqDiff,Nat.reduceAdd,eq_self,gV,↓reduceIte,↓eG,Opd.ev,Sx.get,put,bQ,fF,aU,aF,SV.cells?,SV.one,BB,↓PB]
 rw[aL]
 refine a8 GQ (aN _ _) 2 ?_
 have hl:(aB d).length=16:=by rw[aA,hd]
 have td:=List.take_of_length_le (show (aB d).length≤16 by omega)
 have au:=dD d
 have mb:=bR d
 have gb:=yC (s:=d) (by omega)
 have te:=a9 (bU d)
 have e1:(dV 1 [d]).length=1+(bU d).length:=by simp[dV];omega
 have e2:aB (dV 1 [d])=SV.int .u8 1 :: aB (bU d):=by simp[dV,aB];rfl
 have he:(bU d).length≤100:=by have:=aS (d.length:Int);simp[bU];omega
 rw[e1,e2]
 simp (maxSteps:=1000000) only [hl,td,au,mb,↓gb,te,g9,reduceCtorEq,Nat.reduceEqDiff,Nat.reduceAdd,Nat.reduceMul,Nat.reduceLT,Int.reduceToNat,Int.reduceLT,Int.reduceLE,Int.reduceAdd,Int.reduceNeg,eq_self,↓reduceIte,↓cL,↓dY,Opd.ev,Sx.get,put,bQ,fF,aU,rd,rm,bC,aF,SV.cells?,dX,j5,hH,dT,CF,bB,SV.ren,cQ,bZ,qM,Kind.isOwn,BB,↓PB]
 exact⟨by omega,by omega,[(0,0),(4,0)],by simp[SV.ren,dS,aK,aM,aG,bB,b7,rd,SV.ren,SV.renL,Nat.reduceAdd,Nat.reduceLeDiff,↓reduceIte,Kind.isOwn,exists_eq_left',ne_eq,implies_true,forall_const,BB],by simp[Nat.reduceAdd,Nat.reduceLeDiff,BB]⟩
theorem Ut (a b:List UInt8) (ha:a.length=16) (hb:b.length=16) (cap:Option Nat):Fun Tryz.prog tS 108 [.int .u8 2,.slc 0 0 16 2 cap] [(0,⟨.view,aB (a++b)⟩)] 1 (.slc 1 0 1 (dV 2 [a,b]).length none) [(1,⟨.own 5,aB (dV 2 [a,b])⟩)] 2:=by
 refine aR none (dR FN cF) GQ TY (Nat.le_of_ble_eq_true rfl) (by decide) ?_
 conv in aJ _ _=>(reduce;simp only[aH,UInt8.reduceOfNat,Int.reduceOfNat,Int.reduceNegSucc])
 rw[aQ]
 simp (maxSteps:=1000000) only [FN,reduceCtorEq,Nat.reduceEqDiff,Nat.reduceAdd,eq_self,gV,↓reduceIte,↓eG,Opd.ev,Sx.get,put,bQ,fF,aU,aF,SV.cells?,SV.one,BB,↓PB]
 rw[aL]
 refine a8 GQ (aN _ _) 3 ?_
 have hl:(aB a).length=16:=by rw[aA,ha]
 have hlb:(aB b).length=16:=by rw[aA,hb]
 have hlab:(aB (a++b)).length=32:=by rw[aA,List.length_append];omega
 have td:=List.take_of_length_le (show (aB a).length≤16 by omega)
 have tdb:=List.take_of_length_le (show (aB b).length≤16 by omega)
 have t1:List.take 16 (aB (a++b))=aB a:=by rw[← cE];exact List.take_left' hl
 have t2:List.take 16 (List.drop 16 (aB (a++b)))=aB b:=by rw[← cE,List.drop_left' hl];exact tdb
 have au:=dD a
 have mb:=bR a
 have gb:=yC (s:=a) (by omega)
 have te:=a9 (bU a)
 have au2:=dD b
 have mb2:=bR b
 have gb2:=yC (s:=b) (by omega)
 have te2:=a9 (bU b)
 have e1:(dV 2 [a,b]).length=1+(bU a).length+(bU b).length:=by simp[dV];omega
 have e2:aB (dV 2 [a,b])=SV.int .u8 2 :: (aB (bU a)++aB (bU b)):=by simp[dV,aB];rfl
 have he:(bU a).length≤100:=by have:=aS (a.length:Int);simp[bU];omega
 have he2:(bU b).length≤100:=by have:=aS (b.length:Int);simp[bU];omega
 have tt:List.take (1+(bU a).length) (SV.int .u8 2 :: aB (bU a))=SV.int .u8 2 :: aB (bU a):=List.take_of_length_le (by simp[aA];omega)
 rw[e1,e2]
 simp (maxSteps:=1000000) only [hl,hlb,hlab,t1,t2,td,tdb,au,mb,↓gb,te,au2,mb2,↓gb2,te2,tt,g9,reduceCtorEq,Nat.reduceEqDiff,Nat.reduceAdd,Nat.reduceMul,Nat.reduceLeDiff,Nat.reduceLT,Int.reduceToNat,Int.reduceLT,Int.reduceLE,Int.reduceAdd,Int.reduceNeg,eq_self,↓reduceIte,↓cL,↓dY,Opd.ev,Sx.get,put,bQ,fF,aU,rd,rm,bC,aF,SV.cells?,dX,j5,hH,dT,CF,bB,SV.ren,cQ,bZ,qM,Kind.isOwn,BB,↓PB]
 rw[← e2,← e1]
 exact⟨by omega,by omega,by omega,by omega,by omega,[(0,0),(7,0)],by simp[dS,aK,aM,aG,bB,b7,rd,Nat.reduceAdd,Nat.reduceLeDiff,↓reduceIte,Kind.isOwn,exists_eq_left',ne_eq,implies_true,forall_const,BB],by simp[Nat.reduceAdd,Nat.reduceLeDiff,BB]⟩
def Jl:GS
 | [.int .u8 1,.slc 0 0 16 1 _],[(0,⟨.view,cells⟩)]=>match rQ cells with
  | some d=>if d.length=16 then some (.slc 1 0 1 (dV 1 [d]).length none,[(1,⟨.own 5,aB (dV 1 [d])⟩)],2) else none
  | none=>none
 | [.int .u8 2,.slc 0 0 16 2 _],[(0,⟨.view,cells⟩)]=>match rQ cells with
  | some d=>if d.length=32 then some (.slc 1 0 1 (dV 2 [d.take 16,d.drop 16]).length none,[(1,⟨.own 5,aB (dV 2 [d.take 16,d.drop 16])⟩)],2) else none
  | none=>none
 | _,_=>none
theorem Uu {d:List UInt8} {cap:Option Nat} (hd:d.length=16):Jl [.int .u8 1,.slc 0 0 16 1 cap] [(0,⟨.view,aB d⟩)]=some (.slc 1 0 1 (dV 1 [d]).length none,[(1,⟨.own 5,aB (dV 1 [d])⟩)],2):=by
 unfold Jl
 simp only[aT]
 rw[if_pos hd]
theorem Uv {a b:List UInt8} {cap:Option Nat} (ha:a.length=16) (hb:b.length=16):Jl [.int .u8 2,.slc 0 0 16 2 cap] [(0,⟨.view,aB a++aB b⟩)]=some (.slc 1 0 1 (dV 2 [a,b]).length none,[(1,⟨.own 5,aB (dV 2 [a,b])⟩)],2):=by
 unfold Jl
 simp only
 rw[cE,aT]
 simp only
 rw[if_pos (by simp[ha,hb]),List.take_left' ha,List.drop_left' ha]
theorem SE:dQ Tryz.prog tS 108 Jl:=by
 intro a0 m0 r m1 n1 h
 unfold Jl at h
 split at h
 ·split at h
  ·rename_i d hd
   split at h
   ·rename_i hc
    cases h
    rw[b8 hd]
    exact⟨Us d hc _,by simp[dA]⟩
   ·cases h
  ·cases h
 ·split at h
  ·rename_i d hd
   split at h
   ·rename_i hc
    cases h
    rw[b8 hd]
    have:=Ut (tS:=tS) (d.take 16) (d.drop 16) (by simp;omega) (by simp;omega)
    rw[List.take_append_drop] at this
    exact⟨this _,by simp[dA]⟩
   ·cases h
  ·cases h
 ·cases h
def De:List (FuncId × GS):=[(108,Jl)]
theorem P3:∀ x∈De,dQ Tryz.prog tS x.1 x.2:=by
 intro x hx
 simp only[De,List.mem_cons,List.not_mem_nil,or_false] at hx
 subst hx
 exact SE
theorem P4:∀ f a m n K,dR De cF f a m n K→aY Tryz.prog tS f a m n K:=bA P3 bI
theorem f97 (d:List UInt8) (hd:d.length=16):Fun Tryz.prog tS 109 [.agg (aB d)] [] 0 (.slc 0 0 1 (dV 1 [d]).length none) [(0,⟨.own 5,aB (dV 1 [d])⟩)] 1:=by
 refine aR none (dR De cF) P4 W7 (Nat.le_of_ble_eq_true rfl) (by decide) ?_
 conv in aJ _ _=>(reduce;simp only[aH,UInt8.reduceOfNat,Int.reduceOfNat,Int.reduceNegSucc])
 rw[aQ]
 have hl:(aB d).length=16:=by rw[aA,hd]
 have td:=List.take_of_length_le (show (aB d).length≤16 by omega)
 have g:=Uu (cap:=none) hd
 simp (maxSteps:=1000000) only [De,hl,td,↓g,g9,reduceCtorEq,Nat.reduceEqDiff,Nat.reduceAdd,Nat.reduceSub,Nat.reduceMul,Nat.reduceLT,eq_self,gV,↓reduceIte,↓eG,↓dY,Opd.ev,Sx.get,put,bQ,fF,aU,rd,aF,SV.cells?,dX,j5,hH,yQ,dT,CF,yR,bB,SV.ren,cQ,bZ,qM,Kind.isOwn,BB,↓PB]
 exact⟨[(2,0)],by simp[dS,aK,aM,aG,bB,b7,rd,↓reduceIte,Kind.isOwn,exists_eq_left',ne_eq,implies_true,forall_const,BB],by simp[BB]⟩
theorem f98 (a b:List UInt8) (ha:a.length=16) (hb:b.length=16):Fun Tryz.prog tS 111 [.agg (aB a),.agg (aB b)] [] 0 (.slc 0 0 1 (dV 2 [a,b]).length none) [(0,⟨.own 5,aB (dV 2 [a,b])⟩)] 1:=by
 refine aR none (dR De cF) P4 W9 (Nat.le_of_ble_eq_true rfl) (by decide) ?_
 conv in aJ _ _=>(reduce;simp only[aH,UInt8.reduceOfNat,Int.reduceOfNat,Int.reduceNegSucc])
 rw[aQ]
 have hl:(aB a).length=16:=by rw[aA,ha]
 have hlb:(aB b).length=16:=by rw[aA,hb]
 have td:=List.take_of_length_le (show (aB a).length≤16 by omega)
 have tdb:=List.take_of_length_le (show (aB b).length≤16 by omega)
 have g:=Uv (cap:=none) ha hb
 have sp:∀ z:List SV,z.length=32→aF (aF z 0 (aB a)) 16 (aB b)=aB a++aB b:=by
  intro z hz
  unfold aF
  rw[hl,hlb,List.take_zero,List.nil_append,List.take_left' hl]
  rw[List.drop_of_length_le (by simp[aA,ha,hz])]
  simp
 have lsp:∀ z:List SV,z.length=32→(aF z 0 (aB a)).length=32:=by
  intro z hz
  unfold aF
  simp[aA,ha,hz]
 have lab:(aB a++aB b).length=32:=by simp[aA,ha,hb]
 have fab:SV.flatL (aB a++aB b)=true:=by rw[cE];exact aX _
 have tab:List.take 32 (aB a++aB b)=aB a++aB b:=List.take_of_length_le (by omega)
 simp (maxSteps:=1000000) only [De,hl,hlb,td,tdb,sp,lsp,lab,fab,tab,↓g,g9,reduceCtorEq,Nat.reduceEqDiff,Nat.reduceAdd,Nat.reduceSub,Nat.reduceMul,Nat.reduceLeDiff,Nat.reduceLT,eq_self,gV,↓reduceIte,↓eG,↓dY,Opd.ev,Sx.get,put,bQ,fF,aU,rd,SV.cells?,dX,j5,hH,yQ,dT,CF,yR,bB,SV.ren,cQ,bZ,qM,Kind.isOwn,BB,↓PB]
 exact⟨[(3,0)],by simp[dS,aK,aM,aG,bB,b7,rd,↓reduceIte,Kind.isOwn,exists_eq_left',ne_eq,implies_true,forall_const,BB],by simp[BB]⟩
def P2 (j:Nat):Int:=((2 ^ j:Nat):Int)
theorem Uw {j:Nat} (hj:j < 6):j=0∨j=1∨j=2∨j=3∨j=4∨j=5:=by omega
theorem f111 (j:Nat) (hj:j < 6):Fun Tryz.prog tS 161 [.int .u64 (P2 (j+1) - 1)] [] 0 (.int .i64 ((j+1:Nat):Int)) [] 0:=by
 rcases Uw hj with rfl|rfl|rfl|rfl|rfl|rfl
 ·show Fun Tryz.prog tS 161 [.int .u64 1] [] 0 (.int .i64 1) [] 0
  refine bT none cF bI Es (Nat.le_of_ble_eq_true rfl) (fun η=>rfl) ?_
  conv in aJ _ _=>(reduce;simp only[aH,seval])
  rw[aQ]
  simp only[BC,↓PC,seval]
  exact⟨by decide,rfl⟩
 ·show Fun Tryz.prog tS 161 [.int .u64 3] [] 0 (.int .i64 2) [] 0
  refine bT none cF bI Es (Nat.le_of_ble_eq_true rfl) (fun η=>rfl) ?_
  conv in aJ _ _=>(reduce;simp only[aH,seval])
  rw[aQ]
  simp only[BC,↓PC,seval]
  exact⟨by decide,rfl⟩
 ·show Fun Tryz.prog tS 161 [.int .u64 7] [] 0 (.int .i64 3) [] 0
  refine bT none cF bI Es (Nat.le_of_ble_eq_true rfl) (fun η=>rfl) ?_
  conv in aJ _ _=>(reduce;simp only[aH,seval])
  rw[aQ]
  simp only[BC,↓PC,seval]
  exact⟨by decide,rfl⟩
 ·show Fun Tryz.prog tS 161 [.int .u64 15] [] 0 (.int .i64 4) [] 0
  refine bT none cF bI Es (Nat.le_of_ble_eq_true rfl) (fun η=>rfl) ?_
  conv in aJ _ _=>(reduce;simp only[aH,seval])
  rw[aQ]
  simp only[BC,↓PC,seval]
  exact⟨by decide,rfl⟩
 ·show Fun Tryz.prog tS 161 [.int .u64 31] [] 0 (.int .i64 5) [] 0
  refine bT none cF bI Es (Nat.le_of_ble_eq_true rfl) (fun η=>rfl) ?_
  conv in aJ _ _=>(reduce;simp only[aH,seval])
  rw[aQ]
  simp only[BC,↓PC,seval]
  exact⟨by decide,rfl⟩
 ·show Fun Tryz.prog tS 161 [.int .u64 63] [] 0 (.int .i64 6) [] 0
  refine bT none cF bI Es (Nat.le_of_ble_eq_true rfl) (fun η=>rfl) ?_
  conv in aJ _ _=>(reduce;simp only[aH,seval])
  rw[aQ]
  simp only[BC,↓PC,seval]
  exact⟨by decide,rfl⟩
def Jm:List SV→Option SV
 | [.int .u64 n]=>if n=1 then some (.int .i64 1) else if n=3 then some (.int .i64 2) else if n=7 then some (.int .i64 3) else if n=15 then some (.int .i64 4) else if n=31 then some (.int .i64 5) else if n=63 then some (.int .i64 6) else none
 | _=>none
theorem Ky (j:Nat) (hj:j < 6):Jm [.int .u64 (P2 (j+1) - 1)]=some (.int .i64 ((j+1:Nat):Int)):=by
 rcases Uw hj with rfl|rfl|rfl|rfl|rfl|rfl <;> rfl
theorem M9 {n:Int} {r:SV} (h:Jm [.int .u64 n]=some r):∃ j,j < 6∧n=P2 (j+1) - 1∧r=.int .i64 ((j+1:Nat):Int):=by
 unfold Jm at h
 simp only at h
 split at h
 ·cases h;subst n;exact⟨0,by decide,rfl,rfl⟩
 split at h
 ·cases h;subst n;exact⟨1,by decide,rfl,rfl⟩
 split at h
 ·cases h;subst n;exact⟨2,by decide,rfl,rfl⟩
 split at h
 ·cases h;subst n;exact⟨3,by decide,rfl,rfl⟩
 split at h
 ·cases h;subst n;exact⟨4,by decide,rfl,rfl⟩
 split at h
 ·cases h;subst n;exact⟨5,by decide,rfl,rfl⟩
 ·cases h
theorem Kz {f:FuncId} (H:∀ j,j < 6→Fun Tryz.prog tS f [.int .u64 (P2 (j+1) - 1)] [] 0 (.int .i64 ((j+1:Nat):Int)) [] 0):TabX Tryz.prog tS ⟨[(f,Jm)],[]⟩:=by
 refine⟨fun x h args r hr=>?_,fun x h=>by simp at h⟩
 simp only[List.mem_singleton] at h
 subst h
 simp only at hr
 have:∃ n,args=[.int .u64 n]:=by
  unfold Jm at hr
  split at hr
  ·exact⟨_,rfl⟩
  ·cases hr
 obtain⟨n,rfl⟩:=this
 obtain⟨j,hj,rfl,rfl⟩:=M9 hr
 exact⟨H j hj,fun η=>by simp only[SV.renL,SV.ren],fun η=>by simp only[SV.renL,SV.ren]⟩
theorem f109 (j:Nat) (hj:j < 6):Fun Tryz.prog tS 144 [.int .u64 (P2 (j+1) - 1)] [] 0 (.int .i64 ((j+1:Nat):Int)) [] 0:=by
 refine bT none (gT ⟨[(161,Jm)],[]⟩) (cN (Kz f111)) Wu (Nat.le_of_ble_eq_true rfl) (fun η=>rfl) ?_
 conv in aJ _ _=>(reduce;simp only[aH,seval])
 rw[aQ]
 have g:=Ky j hj
 simp only[↓g,BC,↓PC,seval]
theorem f106 (j:Nat) (hj:j < 6):Fun Tryz.prog tS 110 [.int .i64 (P2 (j+1))] [] 0 (.int .i64 (P2 j)) [] 0:=by
 refine bT none (gT ⟨[(144,Jm)],[]⟩) (cN (Kz f109)) W8 (Nat.le_of_ble_eq_true rfl) (fun η=>rfl) ?_
 conv in aJ _ _=>(reduce;simp only[aH,seval])
 rw[aQ]
 have g:=Ky j hj
 have h1:P2 (j+1)≤64∧2≤P2 (j+1):=by rcases Uw hj with rfl|rfl|rfl|rfl|rfl|rfl <;> decide
 have w1:IntKind.i64.wrap (P2 (j+1) - 1)=P2 (j+1) - 1:=aD (by omega) (by omega)
 have w2:IntKind.u64.wrap (P2 (j+1) - 1)=P2 (j+1) - 1:=by
  rw[show IntKind.u64.wrap (P2 (j+1) - 1)=(P2 (j+1) - 1) % 18446744073709551616 by simp[IntKind.wrap,IntKind.bits,IntKind.signed]];omega
 have w3:IntKind.i64.wrap (((j+1:Nat):Int) - 1)=(j:Int):=by rw[aD (by omega) (by omega)];omega
 have c0:(0:Int)≤(j:Int):=by omega
 have w4:IntKind.i64.wrap (1 * 2 ^ (min j IntKind.i64.bits))=P2 j:=by
  rcases Uw hj with rfl|rfl|rfl|rfl|rfl|rfl <;> rfl
 simp only[w1,w2,↓g,w3,c0,w4,BC,↓PC,seval]
theorem f103 (j:Nat) (hj:j < 6):Fun Tryz.prog tS 78 [.int .i64 (P2 (j+1))] [] 0 (.int .i64 (P2 j)) [] 0:=by
 refine bT (some 8) cF bI Za (Nat.le_of_ble_eq_true rfl) (fun η=>rfl) ?_
 conv in aJ _ _=>(reduce;simp only[aH,seval])
 rw[aQ]
 rcases Uw hj with rfl|rfl|rfl|rfl|rfl|rfl
 all_goals
  simp only[P2,BC,↓PC,seval]
def yX:List SV→Option SV
 | [.int .i64 n]=>if n=2 then some (.int .i64 1) else if n=4 then some (.int .i64 2) else if n=8 then some (.int .i64 4) else if n=16 then some (.int .i64 8) else if n=32 then some (.int .i64 16) else if n=64 then some (.int .i64 32) else none
 | _=>none
theorem GR (j:Nat) (hj:j < 6):yX [.int .i64 (P2 (j+1))]=some (.int .i64 (P2 j)):=by
 rcases Uw hj with rfl|rfl|rfl|rfl|rfl|rfl <;> rfl
theorem Ma {n:Int} {r:SV} (h:yX [.int .i64 n]=some r):∃ j,j < 6∧n=P2 (j+1)∧r=.int .i64 (P2 j):=by
 unfold yX at h
 simp only at h
 split at h
 ·cases h;subst n;exact⟨0,by decide,rfl,rfl⟩
 split at h
 ·cases h;subst n;exact⟨1,by decide,rfl,rfl⟩
 split at h
 ·cases h;subst n;exact⟨2,by decide,rfl,rfl⟩
 split at h
 ·cases h;subst n;exact⟨3,by decide,rfl,rfl⟩
 split at h
 ·cases h;subst n;exact⟨4,by decide,rfl,rfl⟩
 split at h
 ·cases h;subst n;exact⟨5,by decide,rfl,rfl⟩
 ·cases h
theorem GT {f:FuncId} (H:∀ j,j < 6→Fun Tryz.prog tS f [.int .i64 (P2 (j+1))] [] 0 (.int .i64 (P2 j)) [] 0):TabX Tryz.prog tS ⟨[(f,yX)],[]⟩:=by
 refine⟨fun x h args r hr=>?_,fun x h=>by simp at h⟩
 simp only[List.mem_singleton] at h
 subst h
 simp only at hr
 have:∃ n,args=[.int .i64 n]:=by
  unfold yX at hr
  split at hr
  ·exact⟨_,rfl⟩
  ·cases hr
 obtain⟨n,rfl⟩:=this
 obtain⟨j,hj,rfl,rfl⟩:=Ma hr
 exact⟨H j hj,fun η=>by simp only[SV.renL,SV.ren],fun η=>by simp only[SV.renL,SV.ren]⟩
def tM (l:List Bool):List SV:=l.map SV.bool
theorem I0:∀ l:List Bool,SV.flatL (tM l)=true
 | []=>rfl
 | b :: l=>by simp only[tM,List.map_cons,SV.flatL,SV.flat,Bool.true_and];exact I0 l
theorem cZ (η:Nat→Nat × Nat) (l:List Bool):SV.renL η (tM l)=tM l:=SV.flatL_ren η _ (I0 l)
theorem gN (l:List Bool):(tM l).length=l.length:=by simp[tM]
theorem I1 (l:List Bool):List.take l.length (tM l)=tM l:=List.take_of_length_le (by rw[gN];omega)
theorem GU (l:List Bool) (b:Bool):tM l++[.bool b]=tM (l++[b]):=by simp[tM]
def j8 (i t:Nat):Bool:=decide (i / 2 ^ t % 2=1)
def bD (i h:Nat):Nat→List Bool
 | 0=>[]
 | c+1=>bD i h c++[j8 i (h - 1 - c)]
theorem zR (i h:Nat):∀ c,(bD i h c).length=c
 | 0=>rfl
 | c+1=>by simp[bD,zR i h c]
def FO (i j:Nat):Nat:=i / 2 ^ j * 2 ^ j
theorem P5:∀ i:Fin 64,∀ j:Fin 6,FO i (j+1)+(if j8 i j=true then 2 ^ j.val else 0)=FO i j∧(decide ((i.val:Int) - (FO i (j+1):Int) < P2 j)=!j8 i j)∧FO i j≤i:=by decide
theorem Xn (x y z v:Int):Fun Tryz.prog tS 159 [.int .i64 x,.int .i64 y,.int .i64 z,.int .i64 v,.ptr 0 0] [(0,⟨.own 112,[.val (.slice none 0 0)]⟩)] 1 (.tup []) [(0,⟨.own 112,[.slc 1 0 1 1 none]⟩),(1,⟨.own 4,tM [decide (z < x)]⟩)] 2:=by
 refine aR none cF bI T3 (Nat.le_of_ble_eq_true rfl) (by decide) ?_
 conv in aJ _ _=>(reduce;simp only[aH,UInt8.reduceOfNat,Int.reduceOfNat,Int.reduceNegSucc])
 rw[aQ]
 simp (maxSteps:=1000000) only [reduceCtorEq,Nat.reduceEqDiff,Nat.reduceAdd,↓reduceIte,bC,aF,BC,↓PC]
 exact⟨by omega,by omega,[(0,0),(2,0)],by simp[tM,Nat.reduceAdd,Nat.reduceLeDiff,↓reduceIte,reduceCtorEq,BC]⟩
theorem Xo (x y z v:Int) (l:List Bool) (hl:l.length≤1000):Fun Tryz.prog tS 159 [.int .i64 x,.int .i64 y,.int .i64 z,.int .i64 v,.ptr 0 0] [(0,⟨.own 112,[.slc 1 0 1 l.length none]⟩),(1,⟨.own 4,tM l⟩)] 2 (.tup [])
  [(0,⟨.own 112,[.slc 2 0 1 (l.length+1) none]⟩),(2,⟨.own 4,tM (l++[decide (z < x)])⟩)] 3:=by
 refine aR none cF bI T3 (Nat.le_of_ble_eq_true rfl) (by decide) ?_
 conv in aJ _ _=>(reduce;simp only[aH,UInt8.reduceOfNat,Int.reduceOfNat,Int.reduceNegSucc])
 rw[aQ]
 have hl:=gN l
 have tl:=I1 l
 simp (maxSteps:=1000000) only [hl,tl,GU,reduceCtorEq,Nat.reduceEqDiff,Nat.reduceAdd,↓reduceIte,bC,aF,BC,↓PC]
 exact⟨by omega,by omega,[(0,0),(1,0),(3,0)],rfl,by simp[cZ,aK,aM,aG,bB,b7,rd,SV.ren,SV.renL,Nat.reduceAdd,Nat.reduceLeDiff,↓reduceIte,Kind.isOwn,exists_eq_left',ne_eq,implies_true,forall_const,reduceCtorEq,forall_eq,BB]⟩
def cDs:bG:=iB 159 (aY Tryz.prog tS) (gT ⟨[(110,yX)],[]⟩)
theorem P6:∀ f a m n K,cDs (tS:=tS) f a m n K→aY Tryz.prog tS f a m n K:=eZ (cN (GT f106))
theorem f94 (h i:Nat) (hh:h≤6) (hi:i < 2 ^ h):Fun Tryz.prog tS 123 [.int .i64 (P2 h),.int .i64 (i:Int),.fn 159 [] [.ptr 0 0]] [(0,⟨.own 112,[.val (.slice none 0 0)]⟩)] 1 (.tup [])
  (v7 1 4 (tM (bD i h h)) [(0,⟨.own 112,[AN 1 1 h]⟩)] h) (s9 1 h):=by
 refine aR none cDs P6 Wh (Nat.le_of_ble_eq_true rfl) (by cases h <;> simp[s9]) ?_
 conv in aJ _ _=>(reduce;simp only[aH,UInt8.reduceOfNat,Int.reduceOfNat,Int.reduceNegSucc])
 rw[aQ]
 have hi64:i < 64:=Nat.lt_of_lt_of_le hi (Nat.pow_le_pow_right (by decide) hh)
 have at0:FO i h=0:=by unfold FO;rw[Nat.div_eq_of_lt hi];simp
 simp (maxSteps:=1000000) only [cDs,reduceCtorEq,Nat.reduceEqDiff,Nat.reduceAdd,↓reduceIte,BC,↓PC]
 rw[aL]
 refine bF P6 (σ:=Nat) (fun c=>[(6,.int .i64 (FO i (h - c):Int)),(0,.int .i64 (P2 (h - c))),(1,.int .i64 (i:Int)),(2,.fn 159 [] [.ptr 0 0])])
  (fun c=>v7 1 4 (tM (bD i h c)) [(0,⟨.own 112,[AN 1 1 c]⟩)] c) (fun c=>s9 1 c) (fun c=>c≤h) (fun c=>h - c) 0 ?_ (Nat.zero_le _) ?_
 ·exact⟨[(0,0)],by simp[↓reduceIte,BC],by simp[at0,Nat.reduceEqDiff,↓reduceIte,reduceCtorEq,BC]⟩
 ·intro c hc
  by_cases hch:c < h
  ·obtain⟨j,hj⟩:∃ j,h - c=j+1:=⟨h - c - 1,by omega⟩
   have hj6:j < 6:=by omega
   have hj':h - (c+1)=j:=by omega
   have hj2:h - 1 - c=j:=by omega
   rw[hj]
   have g:=GR j hj6
   obtain⟨a1,a2,a3⟩:=P5 ⟨i,hi64⟩ ⟨j,hj6⟩
   simp only at a1 a2 a3
   have p1:P2 (j+1)=P2 j+P2 j:=by unfold P2;rw[Nat.pow_succ];omega
   have p2:1≤P2 j∧P2 j≤32:=by rcases Uw hj6 with rfl|rfl|rfl|rfl|rfl|rfl <;> decide
   have p3:(2 ^ j:Nat)=(P2 j).toNat:=by unfold P2;exact (Int.toNat_natCast _).symm
   have c1:P2 (j+1) > 1:=by omega
   have a4:FO i (j+1)≤63:=by split at a1 <;> omega
   have w1:IntKind.i64.wrap ((i:Int) - (FO i (j+1):Int))=(i:Int) - (FO i (j+1):Int):=aD (by omega) (by omega)
   have w2:IntKind.i64.wrap ((FO i (j+1):Int)+P2 j)=(FO i (j+1):Int)+P2 j:=aD (by omega) (by omega)
   have w3:IntKind.i64.wrap (P2 (j+1) - P2 j)=P2 j:=by rw[aD (by omega) (by omega)];omega
   have z1:decide ((FO i (j+1):Int)+P2 j < (FO i (j+1):Int))=false:=by simp;omega
   have z2:decide ((FO i (j+1):Int) < (FO i (j+1):Int)+P2 j)=true:=by simp;omega
   have hb:bD i h (c+1)=bD i h c++[j8 i j]:=by simp only[bD,hj2]
   have hbl:=zR i h c
   cases hbit:j8 i j with
   | false=>
    rw[hbit] at a1 a2 hb
    simp only[Bool.not_false,Bool.false_eq_true,if_false,Nat.add_zero] at a1 a2
    have e4:(FO i j:Int)=(FO i (j+1):Int):=by rw[a1]
    rcases Nat.eq_zero_or_pos c with h0|h0
    ·simp only[lJ h0,jU h0,lM h0]
     simp (maxSteps:=1000000) only [c1,↓g,w1,w2,w3,a2,reduceCtorEq,Nat.reduceEqDiff,↓reduceIte,BC,↓PC]
     refine⟨[(0,0)],_,_,_,_,2,Xn _ _ _ _,rfl,⟨⟨_,rfl,rfl,rfl,rfl⟩,trivial⟩,⟨by simp,trivial⟩,⟨by decide,trivial⟩,by simp,⟨fun _=>rfl,fun _=>rfl,trivial⟩,?_⟩
     have hb0:tM (bD i h (c+1))=tM [false]:=by rw[hb,h0];rfl
     simp (maxSteps:=1000000) only [z1,cZ,reduceCtorEq,Nat.reduceEqDiff,Nat.reduceAdd,Nat.reduceSub,↓reduceIte,BC,↓PC]
     refine⟨c+1,?_,by omega,by omega⟩
     simp only[eL (Nat.succ_pos c),eE (Nat.succ_pos c),eO (Nat.succ_pos c),hb0,e4,hj']
     exact⟨[(0,0),(1,0)],by simp[cZ,h0,Nat.reduceAdd,Nat.reduceLeDiff,↓reduceIte,BC],by simp[Nat.reduceAdd,Nat.reduceEqDiff,↓reduceIte,reduceCtorEq,BC]⟩
    ·simp only[eL h0,eE h0,eO h0]
     simp (maxSteps:=1000000) only [c1,↓g,w1,w2,w3,a2,reduceCtorEq,Nat.reduceEqDiff,Nat.reduceAdd,↓reduceIte,BC,↓PC]
     have F:=fun x y z v=>Xo (tS:=tS) x y z v (bD i h c) (by omega)
     rw[hbl] at F
     refine⟨[(0,0),(1,0)],_,_,_,_,3,F _ _ _ _,rfl,⟨⟨_,rfl,rfl,rfl,rfl⟩,⟨_,rfl,rfl,rfl,(cZ _ _).symm⟩,trivial⟩,⟨by intro x hx;simp at hx;subst hx;intro _;simp[bB],⟨by simp,trivial⟩⟩,⟨by decide,by decide,trivial⟩,
      by intro x hx;simp at hx;rcases hx with rfl|rfl <;> decide,⟨fun _=>rfl,fun _=>rfl,trivial⟩,?_⟩
     simp (maxSteps:=1000000) only [z1,cZ,reduceCtorEq,Nat.reduceEqDiff,Nat.reduceAdd,Nat.reduceSub,↓reduceIte,BC,↓PC]
     refine⟨c+1,?_,by omega,by omega⟩
     simp only[eL (Nat.succ_pos c),eE (Nat.succ_pos c),eO (Nat.succ_pos c),hb,e4,hj']
     exact⟨[(0,0),(2,0)],by simp[cZ,Nat.reduceAdd,Nat.reduceLeDiff,↓reduceIte,reduceCtorEq,BC],by simp[Nat.reduceAdd,Nat.reduceEqDiff,↓reduceIte,reduceCtorEq,BC]⟩
   | true=>
    rw[hbit] at a1 a2 hb
    simp only[Bool.not_true,if_true] at a1 a2
    have e4:(FO i j:Int)=(FO i (j+1):Int)+P2 j:=by rw[← a1];unfold P2;omega
    rcases Nat.eq_zero_or_pos c with h0|h0
    ·simp only[lJ h0,jU h0,lM h0]
     simp (maxSteps:=1000000) only [c1,↓g,w1,w2,w3,a2,reduceCtorEq,Nat.reduceEqDiff,↓reduceIte,BC,↓PC]
     refine⟨[(0,0)],_,_,_,_,2,Xn _ _ _ _,rfl,⟨⟨_,rfl,rfl,rfl,rfl⟩,trivial⟩,⟨by simp,trivial⟩,⟨by decide,trivial⟩,by simp,⟨fun _=>rfl,fun _=>rfl,trivial⟩,?_⟩
     have hb0:tM (bD i h (c+1))=tM [true]:=by rw[hb,h0];rfl
     simp (maxSteps:=1000000) only [w2,w3,z2,cZ,reduceCtorEq,Nat.reduceEqDiff,Nat.reduceAdd,Nat.reduceSub,↓reduceIte,BC,↓PC]
     refine⟨c+1,?_,by omega,by omega⟩
     simp only[eL (Nat.succ_pos c),eE (Nat.succ_pos c),eO (Nat.succ_pos c),hb0,e4,hj']
     exact⟨[(0,0),(1,0)],by simp[cZ,h0,Nat.reduceAdd,Nat.reduceLeDiff,↓reduceIte,BC],by simp[Nat.reduceAdd,Nat.reduceEqDiff,↓reduceIte,reduceCtorEq,BC]⟩
    ·simp only[eL h0,eE h0,eO h0]
     simp (maxSteps:=1000000) only [c1,↓g,w1,w2,w3,a2,reduceCtorEq,Nat.reduceEqDiff,Nat.reduceAdd,↓reduceIte,BC,↓PC]
     have F:=fun x y z v=>Xo (tS:=tS) x y z v (bD i h c) (by omega)
     rw[hbl] at F
     refine⟨[(0,0),(1,0)],_,_,_,_,3,F _ _ _ _,rfl,⟨⟨_,rfl,rfl,rfl,rfl⟩,⟨_,rfl,rfl,rfl,(cZ _ _).symm⟩,trivial⟩,⟨by intro x hx;simp at hx;subst hx;intro _;simp[bB],⟨by simp,trivial⟩⟩,⟨by decide,by decide,trivial⟩,
      by intro x hx;simp at hx;rcases hx with rfl|rfl <;> decide,⟨fun _=>rfl,fun _=>rfl,trivial⟩,?_⟩
     simp (maxSteps:=1000000) only [w2,w3,z2,cZ,reduceCtorEq,Nat.reduceEqDiff,Nat.reduceAdd,Nat.reduceSub,↓reduceIte,BC,↓PC]
     refine⟨c+1,?_,by omega,by omega⟩
     simp only[eL (Nat.succ_pos c),eE (Nat.succ_pos c),eO (Nat.succ_pos c),hb,e4,hj']
     exact⟨[(0,0),(2,0)],by simp[cZ,Nat.reduceAdd,Nat.reduceLeDiff,↓reduceIte,reduceCtorEq,BC],by simp[Nat.reduceAdd,Nat.reduceEqDiff,↓reduceIte,reduceCtorEq,BC]⟩
  ·obtain rfl:c=h:=by omega
   rw[Nat.sub_self]
   have c3:decide (P2 0 > 1)=false:=rfl
   rcases Nat.eq_zero_or_pos c with h0|h0
   ·simp only[lJ h0,jU h0,lM h0]
    simp (maxSteps:=1000000) only [c3,reduceCtorEq,Nat.reduceEqDiff,↓reduceIte,BC,↓PC]
    exact⟨[(0,0)],by simp[↓reduceIte,BC]⟩
   ·simp only[eL h0,eE h0,eO h0]
    simp (maxSteps:=1000000) only [c3,reduceCtorEq,Nat.reduceEqDiff,Nat.reduceAdd,↓reduceIte,BC,↓PC]
    exact⟨[(0,0),(1,0)],by simp[cZ,Nat.reduceAdd,Nat.reduceLeDiff,↓reduceIte,BC]⟩
theorem P7 {l:List Bool} (h:l.length≤6):l=[]∨(∃ a,l=[a])∨(∃ a b,l=[a,b])∨(∃ a b c,l=[a,b,c])∨(∃ a b c d,l=[a,b,c,d])∨(∃ a b c d e,l=[a,b,c,d,e])∨∃ a b c d e f,l=[a,b,c,d,e,f]:=by
 match l,h with
 | [],_=>exact .inl rfl
 | [a],_=>exact .inr (.inl ⟨a,rfl⟩)
 | [a,b],_=>exact .inr (.inr (.inl ⟨a,b,rfl⟩))
 | [a,b,c],_=>exact .inr (.inr (.inr (.inl ⟨a,b,c,rfl⟩)))
 | [a,b,c,d],_=>exact .inr (.inr (.inr (.inr (.inl ⟨a,b,c,d,rfl⟩))))
 | [a,b,c,d,e],_=>exact .inr (.inr (.inr (.inr (.inr (.inl ⟨a,b,c,d,e,rfl⟩)))))
 | [a,b,c,d,e,f],_=>exact .inr (.inr (.inr (.inr (.inr (.inr ⟨a,b,c,d,e,f,rfl⟩)))))
 | _ :: _ :: _ :: _ :: _ :: _ :: _ :: _,h=>exact absurd h (by simp)
theorem f96 (l:List Bool) (h:l.length≤6):Fun Tryz.prog tS 112 [.slc 0 0 1 l.length none] [(0,⟨.own 4,tM l⟩)] 1 (.tup []) [(0,⟨.own 4,tM l.reverse⟩)] 1:=by
 rcases P7 h with rfl|⟨a,rfl⟩|⟨a,b,rfl⟩|⟨a,b,c,rfl⟩|⟨a,b,c,d,rfl⟩|⟨a,b,c,d,e,rfl⟩|⟨a,b,c,d,e,f,rfl⟩
 all_goals
  refine aR none cF bI TZ (Nat.le_of_ble_eq_true rfl) (by decide) ?_
  conv in aJ _ _=>(reduce;simp only[aH,seval])
  rw[aQ]
  simp (maxSteps:=1000000) only [tM,BC,↓PC,seval]
  rw[aL]
  refine a8 bI (aN _ _) 5 ?_
  simp (maxSteps:=1000000) only [Ei,cV,jC,touch,clear,eV,lZ,bC,aF,BC,↓PC,seval]
  exact⟨[(0,0)],by simp[BC,seval]⟩
theorem Ux:Fun Tryz.prog tS 112 [.val (.slice none 0 0)] [] 0 (.tup []) [] 0:=by
 refine aR none cF bI TZ (Nat.le_of_ble_eq_true rfl) (by decide) ?_
 conv in aJ _ _=>(reduce;simp only[aH,seval])
 rw[aQ]
 simp (maxSteps:=1000000) only [BC,↓PC,seval]
 rw[aL]
 refine a8 bI (aN _ _) 5 ?_
 simp (maxSteps:=1000000) only [BC,↓PC,seval]
 exact⟨[],by simp[BC]⟩
theorem P8 (i h:Nat):∀ c,c≤h→∀ t,t < c→(bD i h c)[t]?=some (j8 i (h - 1 - t))
 | 0,_,t,ht=>by omega
 | c+1,hc,t,ht=>by
  simp only[bD]
  by_cases h1:t < c
  ·rw[List.getElem?_append_left (by rw[zR];exact h1)]
   exact P8 i h c (by omega) t h1
  ·obtain rfl:t=c:=by omega
   rw[List.getElem?_append_right (by rw[zR];omega),zR]
   simp
theorem Uy (i h k:Nat) (hk:k < h):(bD i h h).reverse[k]?=some (j8 i k):=by
 have hl:=zR i h h
 rw[List.getElem?_reverse (by rw[hl];exact hk),hl,P8 i h h (Nat.le_refl _) _ (by omega)]
 congr 2
 omega
def d8 (X:List UInt8) (k:Nat):List UInt8:=(X.drop (16 * k)).take 16
def nV (m:List UInt8):List UInt8:=(jR m).take 16
def fW (i:Nat) (d X:List UInt8):Nat→List UInt8
 | 0=>dV 1 [d]
 | k+1=>if j8 i k=true then dV 2 [d8 X k,nV (fW i d X k)] else dV 2 [nV (fW i d X k),d8 X k]
theorem kX (m:List UInt8):(nV m).length=16:=by simp[nV,jS]
theorem P9 {a:List UInt8} (ha:a.length=16):(bU a).length=18:=by
 have:(aP 16).length=2:=by decide
 simp[bU,ha]
 exact this
theorem xH {d:List UInt8} (hd:d.length=16):(dV 1 [d]).length=19:=by simp[dV,P9 hd]
theorem mC {a b:List UInt8} (ha:a.length=16) (hb:b.length=16):(dV 2 [a,b]).length=37:=by simp[dV,P9 ha,P9 hb]
def gF:Nat→Nat
 | 0=>19
 | _+1=>37
theorem GV {X:List UInt8} {h k:Nat} (hX:X.length=16 * h) (hk:k < h):(d8 X k).length=16:=by simp[d8,hX];omega
theorem pU {i:Nat} {d X:List UInt8} {h:Nat} (hd:d.length=16) (hX:X.length=16 * h):∀ k,k≤h→(fW i d X k).length=gF k
 | 0,_=>xH hd
 | k+1,hk=>by
  unfold fW
  split
  ·exact mC (GV hX (by omega)) (kX _)
  ·exact mC (kX _) (GV hX (by omega))
theorem SH (k:Nat):gF k≤37:=by cases k <;> simp[gF]
def Xp:GS
 | [.slc 0 0 1 len _],[(0,⟨.view,cells⟩)]=>match rQ cells with
  | some m=>if len=m.length∧m.length≤2 ^ 37 then some (.agg (aB (nV m)),[],1) else none
  | none=>none
 | _,_=>none
theorem Jn {m:List UInt8} {cap:Option Nat} {n:Nat} (hn:m.length=n) (hm:n≤2 ^ 37):Xp [.slc 0 0 1 n cap] [(0,⟨.view,aB m⟩)]=some (.agg (aB (nV m)),[],1):=by
 unfold Xp
 simp only[aT]
 rw[if_pos ⟨hn.symm,by omega⟩]
theorem Uz:dQ Tryz.prog aO 107 Xp:=by
 intro a0 m0 r m1 n1 h
 unfold Xp at h
 split at h
 ·split at h
  ·rename_i m hm
   split at h
   ·rename_i hc
    cases h
    obtain⟨rfl,h2⟩:=hc
    rw[b8 hm]
    exact⟨(Qt m h2 _).more GL,by simp[dA]⟩
   ·cases h
  ·cases h
 ·cases h
def I3:GS
 | [.agg c],[]=>match rQ c with
  | some d=>if d.length=16 then some (.slc 0 0 1 19 none,[(0,⟨.own 5,aB (dV 1 [d])⟩)],1) else none
  | none=>none
 | _,_=>none
theorem I4 {d:List UInt8} (hd:d.length=16):I3 [.agg (aB d)] []=some (.slc 0 0 1 19 none,[(0,⟨.own 5,aB (dV 1 [d])⟩)],1):=by
 unfold I3
 simp only[aT]
 rw[if_pos hd]
theorem Pa {tS:List (Nat × List SV)}:dQ Tryz.prog tS 109 I3:=by
 intro a0 m0 r m1 n1 h
 unfold I3 at h
 split at h
 ·split at h
  ·rename_i d hd
   split at h
   ·rename_i hc
    cases h
    have F:=f97 (tS:=tS) d hc
    rw[xH hc] at F
    rw[b8 hd]
    exact⟨F,by simp[dA]⟩
   ·cases h
  ·cases h
 ·cases h
def I5:GS
 | [.agg c,.agg c'],[]=>match rQ c,rQ c' with
  | some a,some b=>if a.length=16∧b.length=16 then some (.slc 0 0 1 37 none,[(0,⟨.own 5,aB (dV 2 [a,b])⟩)],1) else none
  | _,_=>none
 | _,_=>none
theorem I6 {a b:List UInt8} (ha:a.length=16) (hb:b.length=16):I5 [.agg (aB a),.agg (aB b)] []=some (.slc 0 0 1 37 none,[(0,⟨.own 5,aB (dV 2 [a,b])⟩)],1):=by
 unfold I5
 simp only[aT]
 rw[if_pos ⟨ha,hb⟩]
theorem Pb {tS:List (Nat × List SV)}:dQ Tryz.prog tS 111 I5:=by
 intro a0 m0 r m1 n1 h
 unfold I5 at h
 split at h
 ·split at h
  ·rename_i a b ha hb
   split at h
   ·rename_i hc
    cases h
    have F:=f98 (tS:=tS) a b hc.1 hc.2
    rw[mC hc.1 hc.2] at F
    rw[b8 ha,b8 hb]
    exact⟨F,by simp[dA]⟩
   ·cases h
  ·cases h
 ·cases h
def Bj:List (FuncId × GS):=[(107,Xp),(109,I3),(111,I5)]
theorem I7:∀ x∈Bj,dQ Tryz.prog aO x.1 x.2:=by
 intro x hx
 simp only[Bj,List.mem_cons,List.not_mem_nil,or_false] at hx
 rcases hx with rfl|rfl|rfl
 ·exact Uz
 ·exact Pa
 ·exact Pb
def Xq:bG:=iB 123 (aY Tryz.prog aO) (iB 112 (aY Tryz.prog aO) (dR Bj cF))
theorem GW:∀ f a m n K,Xq f a m n K→aY Tryz.prog aO f a m n K:=eZ (eZ (bA I7 bI))
def pB (base last:Nat) (k:Nat):List SV:=(List.range k).map (fun j=>SV.slc (base+j) 0 1 (gF j) none)++[.slc last 0 1 (gF k) none]
theorem f81 (h i:Nat) (d X:List UInt8) (hh:h≤6) (h0:0 < h) (hi:i < 2 ^ h) (hd:d.length=16) (hX:X.length=16 * h) :
  Fun Tryz.prog aO 139 [.int .i64 (P2 h),.int .i64 (i:Int),.agg (aB d),.slc 0 0 16 h none] [(0,⟨.view,aB X⟩)] 1
   (.slc 1 0 1 (h+1) none) [(1,⟨.own 56,pB 3 2 h⟩),(2,⟨.own 5,aB (fW i d X h)⟩)] (3+h):=by
 refine aR none Xq GW T1 (Nat.le_of_ble_eq_true rfl) (by omega) ?_
 conv in aJ _ _=>(reduce;simp only[aH,UInt8.reduceOfNat,Int.reduceOfNat,Int.reduceNegSucc])
 rw[aQ]
 have hip:(i:Int) < P2 h:=by unfold P2;omega
 have c1:¬ (i:Int) < 0:=by omega
 have c2:¬ (i:Int) ≥ P2 h:=by omega
 have hl:(aB d).length=16:=by rw[aA,hd]
 simp (maxSteps:=1000000) only [Xq,Bj,c1,c2,reduceCtorEq,Nat.reduceEqDiff,Nat.reduceAdd,↓reduceIte,BC,↓PC]
 have F94:=f94 (tS:=aO) h i hh hi
 simp only[eL h0,eE h0,eO h0] at F94
 refine⟨[(2,0)],_,_,_,_,_,F94,rfl,⟨⟨_,rfl,rfl,rfl,rfl⟩,trivial⟩,⟨by simp,trivial⟩,⟨by decide,trivial⟩,by simp,⟨fun _=>rfl,fun _=>rfl,trivial⟩,?_⟩
 have hbl:=zR i h h
 have hne:((h:Int) != (h:Int))=false:=by simp
 simp (maxSteps:=1000000) only [cZ,hne,reduceCtorEq,Nat.reduceEqDiff,Nat.reduceAdd,Nat.reduceSub,↓reduceIte,BC,↓PC]
 have F96:=f96 (tS:=aO) (bD i h h) (by omega)
 rw[hbl] at F96
 refine⟨[(3,0)],_,_,_,_,_,F96,rfl,⟨⟨_,rfl,rfl,rfl,(cZ _ _).symm⟩,trivial⟩,⟨by simp,trivial⟩,⟨by decide,trivial⟩,by simp,⟨fun _=>rfl,trivial⟩,?_⟩
 have gl:=I4 hd
 have td:=List.take_of_length_le (show (aB d).length≤16 by omega)
 simp (maxSteps:=1000000) only [cZ,hl,td,↓gl,reduceCtorEq,Nat.reduceEqDiff,Nat.reduceAdd,Nat.reduceSub,↓reduceIte,aF,BC,↓PC]
 rw[aL]
 have rX:∀ η,SV.renL η (aB X)=aB X:=fun η=>aC η X
 have lX:(aB X).length=16 * h:=by rw[aA,hX]
 have hbr:(bD i h h).reverse.length=h:=by rw[List.length_reverse,hbl]
 refine bF GW (σ:=Nat) (fun k=>[(37,.int .i64 (k:Int)),(36,.int .i64 (h:Int)),(35,.slc 0 0 16 h none),(10,.slc 4 0 1 (k+1) none),(9,.ptr 2 0)])
  (fun k=>[(5,⟨.own 5,aB (fW i d X k)⟩),(4,⟨.own 56,pB 6 5 k⟩),(3,⟨.own 4,tM (bD i h h).reverse⟩),(2,⟨.own 112,[.slc 3 0 1 h none]⟩),(0,⟨.view,aB X⟩)]) (fun k=>6+k)
  (fun k=>k≤h) (fun k=>h - k) 0 ?_ (Nat.zero_le _) ?_
 ·exact⟨[(0,0),(1,0),(2,0),(3,0),(5,0),(4,0)],by simp[fW,pB,List.range,List.range.loop,gF,Nat.reduceAdd,rX,cZ,Nat.reduceAdd,Nat.reduceEqDiff,Nat.reduceLT,Nat.reduceLeDiff,↓reduceIte,reduceCtorEq,BC],by simp[Nat.reduceAdd,Nat.reduceEqDiff,Nat.reduceLT,Nat.reduceLeDiff,↓reduceIte,BC]⟩
 ·intro k hk
  by_cases hkh:k < h
  ·have c3:(k:Int) < (h:Int):=by omega
   have c4:(0:Int)≤(k:Int):=by omega
   have gR:(tM (bD i h h).reverse)[k]?=some (.bool (j8 i k)):=by rw[tM,List.getElem?_map,Uy i h k hkh];rfl
   have pl:=GV hX hkh
   have tP:List.take 16 (List.drop (k * 16) (aB X))=aB (d8 X k):=by simp[d8,aB,List.map_take,List.map_drop,Nat.mul_comm]
   have bP:k * 16+16≤16 * h:=by omega
   have lP:(aB (d8 X k)).length=16:=by rw[aA,pl]
   have ttP:=List.take_of_length_le (show (aB (d8 X k)).length≤16 by omega)
   have il:=pU (i:=i) hd hX k hk
   have sl:=kX (fW i d X k)
   have lS:(aB (nV (fW i d X k))).length=16:=by rw[aA,sl]
   have ttS:=List.take_of_length_le (show (aB (nV (fW i d X k))).length≤16 by omega)
   have gs:=Jn (cap:=none) il (by have:=SH k;omega)
   have tI:List.take (gF k) (aB (fW i d X k))=aB (fW i d X k):=List.take_of_length_le (by rw[aA,il];omega)
   have lI:(aB (fW i d X k)).length=gF k:=by rw[aA,il]
   have gn1:=I6 pl sl
   have gn2:=I6 sl pl
   have hin:fW i d X (k+1)=if j8 i k=true then dV 2 [d8 X k,nV (fW i d X k)] else dV 2 [nV (fW i d X k),d8 X k]:=rfl
   generalize hI:fW i d X k=I at *
   generalize hP:d8 X k=P at *
   generalize hSe:nV I=S at *
   have hk6:k=0∨k=1∨k=2∨k=3∨k=4∨k=5:=by omega
   cases hbit:j8 i k with
   | false=>
    rw[hbit] at gR hin
    simp only[Bool.false_eq_true,if_false] at hin
    rcases hk6 with rfl|rfl|rfl|rfl|rfl|rfl
    ·simp only[gF] at gs tI lI il
     have tP0:List.take 16 (aB X)=aB P:=by simpa using tP
     have b0:(16:Nat)≤16 * h:=by omega
     have c5:(0:Int) < (h:Int):=by omega
     simp (maxSteps:=1000000) only [c5,gR,tP0,b0,lX,lP,ttP,lS,ttS,↓gs,tI,lI,hbr,gN,↓gn2,pB,List.range,List.range.loop,gF,Nat.reduceAdd,reduceCtorEq,Nat.reduceEqDiff,Nat.reduceAdd,Nat.reduceSub,Nat.reduceMul,Nat.reduceLT,Int.reduceToNat,Int.reduceLT,Int.reduceLE,Int.reduceAdd,Int.reduceNeg,↓reduceIte,bC,aF,BC,↓PC]
     exact⟨by omega,by omega,by omega,by omega,1,⟨[(0,0),(1,0),(2,0),(3,0),(10,0),(8,0),(5,0)],by simp[hin,List.range.loop,Nat.reduceAdd,rX,cZ,Nat.reduceAdd,Nat.reduceEqDiff,Nat.reduceLT,Nat.reduceLeDiff,↓reduceIte,reduceCtorEq,BC],by simp[Nat.reduceAdd,Nat.reduceEqDiff,Nat.reduceLT,Nat.reduceLeDiff,↓reduceIte,BC]⟩,by omega,by omega⟩
    ·simp only[gF] at gs tI lI il
     have c5:(1:Int) < (h:Int):=by omega
     simp (maxSteps:=1000000) only [c5,gR,tP,bP,lX,lP,ttP,lS,ttS,↓gs,tI,lI,hbr,gN,↓gn2,pB,List.range,List.range.loop,gF,Nat.reduceAdd,reduceCtorEq,Nat.reduceEqDiff,Nat.reduceAdd,Nat.reduceSub,Nat.reduceMul,Nat.reduceLT,Int.reduceToNat,Int.reduceLT,Int.reduceLE,Int.reduceAdd,Int.reduceNeg,↓reduceIte,bC,aF,BC,↓PC]
     exact⟨by omega,by omega,by omega,by omega,2,⟨[(0,0),(1,0),(2,0),(3,0),(11,0),(9,0),(6,0),(5,0)],by simp[hin,List.range.loop,Nat.reduceAdd,rX,cZ,Nat.reduceAdd,Nat.reduceEqDiff,Nat.reduceLT,Nat.reduceLeDiff,↓reduceIte,reduceCtorEq,BC],by simp[Nat.reduceAdd,Nat.reduceEqDiff,Nat.reduceLT,Nat.reduceLeDiff,↓reduceIte,BC]⟩,by omega,by omega⟩
    ·simp only[gF] at gs tI lI il
     have c5:(2:Int) < (h:Int):=by omega
     simp (maxSteps:=1000000) only [c5,gR,tP,bP,lX,lP,ttP,lS,ttS,↓gs,tI,lI,hbr,gN,↓gn2,pB,List.range,List.range.loop,gF,Nat.reduceAdd,reduceCtorEq,Nat.reduceEqDiff,Nat.reduceAdd,Nat.reduceSub,Nat.reduceMul,Nat.reduceLT,Int.reduceToNat,Int.reduceLT,Int.reduceLE,Int.reduceAdd,Int.reduceNeg,↓reduceIte,bC,aF,BC,↓PC]
     exact⟨by omega,by omega,by omega,by omega,3,⟨[(0,0),(1,0),(2,0),(3,0),(12,0),(10,0),(6,0),(7,0),(5,0)],by simp[hin,List.range.loop,Nat.reduceAdd,rX,cZ,Nat.reduceAdd,Nat.reduceEqDiff,Nat.reduceLT,Nat.reduceLeDiff,↓reduceIte,reduceCtorEq,BC],by simp[Nat.reduceAdd,Nat.reduceEqDiff,Nat.reduceLT,Nat.reduceLeDiff,↓reduceIte,BC]⟩,by omega,by omega⟩
    ·simp only[gF] at gs tI lI il
     have c5:(3:Int) < (h:Int):=by omega
     simp (maxSteps:=1000000) only [c5,gR,tP,bP,lX,lP,ttP,lS,ttS,↓gs,tI,lI,hbr,gN,↓gn2,pB,List.range,List.range.loop,gF,Nat.reduceAdd,reduceCtorEq,Nat.reduceEqDiff,Nat.reduceAdd,Nat.reduceSub,Nat.reduceMul,Nat.reduceLT,Int.reduceToNat,Int.reduceLT,Int.reduceLE,Int.reduceAdd,Int.reduceNeg,↓reduceIte,bC,aF,BC,↓PC]
     exact⟨by omega,by omega,by omega,by omega,4,⟨[(0,0),(1,0),(2,0),(3,0),(13,0),(11,0),(6,0),(7,0),(8,0),(5,0)],by simp[hin,List.range.loop,Nat.reduceAdd,rX,cZ,Nat.reduceAdd,Nat.reduceEqDiff,Nat.reduceLT,Nat.reduceLeDiff,↓reduceIte,reduceCtorEq,BC],by simp[Nat.reduceAdd,Nat.reduceEqDiff,Nat.reduceLT,Nat.reduceLeDiff,↓reduceIte,BC]⟩,by omega,by omega⟩
    ·simp only[gF] at gs tI lI il
     have c5:(4:Int) < (h:Int):=by omega
     simp (maxSteps:=1000000) only [c5,gR,tP,bP,lX,lP,ttP,lS,ttS,↓gs,tI,lI,hbr,gN,↓gn2,pB,List.range,List.range.loop,gF,Nat.reduceAdd,reduceCtorEq,Nat.reduceEqDiff,Nat.reduceAdd,Nat.reduceSub,Nat.reduceMul,Nat.reduceLT,Int.reduceToNat,Int.reduceLT,Int.reduceLE,Int.reduceAdd,Int.reduceNeg,↓reduceIte,bC,aF,BC,↓PC]
     exact⟨by omega,by omega,by omega,by omega,5,⟨[(0,0),(1,0),(2,0),(3,0),(14,0),(12,0),(6,0),(7,0),(8,0),(9,0),(5,0)],by simp[hin,List.range.loop,Nat.reduceAdd,rX,cZ,Nat.reduceAdd,Nat.reduceEqDiff,Nat.reduceLT,Nat.reduceLeDiff,↓reduceIte,reduceCtorEq,BC],by simp[Nat.reduceAdd,Nat.reduceEqDiff,Nat.reduceLT,Nat.reduceLeDiff,↓reduceIte,BC]⟩,by omega,by omega⟩
    ·simp only[gF] at gs tI lI il
     have c5:(5:Int) < (h:Int):=by omega
     simp (maxSteps:=1000000) only [c5,gR,tP,bP,lX,lP,ttP,lS,ttS,↓gs,tI,lI,hbr,gN,↓gn2,pB,List.range,List.range.loop,gF,Nat.reduceAdd,reduceCtorEq,Nat.reduceEqDiff,Nat.reduceAdd,Nat.reduceSub,Nat.reduceMul,Nat.reduceLT,Int.reduceToNat,Int.reduceLT,Int.reduceLE,Int.reduceAdd,Int.reduceNeg,↓reduceIte,bC,aF,BC,↓PC]
     exact⟨by omega,by omega,by omega,by omega,6,⟨[(0,0),(1,0),(2,0),(3,0),(15,0),(13,0),(6,0),(7,0),(8,0),(9,0),(10,0),(5,0)],by simp[hin,List.range.loop,Nat.reduceAdd,rX,cZ,Nat.reduceAdd,Nat.reduceEqDiff,Nat.reduceLT,Nat.reduceLeDiff,↓reduceIte,reduceCtorEq,BC],by simp[Nat.reduceAdd,Nat.reduceEqDiff,Nat.reduceLT,Nat.reduceLeDiff,↓reduceIte,BC]⟩,by omega,by omega⟩
   | true=>
    rw[hbit] at gR hin
    simp only[if_true] at hin
    rcases hk6 with rfl|rfl|rfl|rfl|rfl|rfl
    ·simp only[gF] at gs tI lI il
     have tP0:List.take 16 (aB X)=aB P:=by simpa using tP
     have b0:(16:Nat)≤16 * h:=by omega
     have c5:(0:Int) < (h:Int):=by omega
     simp (maxSteps:=1000000) only [c5,gR,tP0,b0,lX,lP,ttP,lS,ttS,↓gs,tI,lI,hbr,gN,↓gn1,pB,List.range,List.range.loop,gF,Nat.reduceAdd,reduceCtorEq,Nat.reduceEqDiff,Nat.reduceAdd,Nat.reduceSub,Nat.reduceMul,Nat.reduceLT,Int.reduceToNat,Int.reduceLT,Int.reduceLE,Int.reduceAdd,Int.reduceNeg,↓reduceIte,bC,aF,BC,↓PC]
     exact⟨by omega,by omega,by omega,by omega,1,⟨[(0,0),(1,0),(2,0),(3,0),(10,0),(8,0),(5,0)],by simp[hin,List.range.loop,Nat.reduceAdd,rX,cZ,Nat.reduceAdd,Nat.reduceEqDiff,Nat.reduceLT,Nat.reduceLeDiff,↓reduceIte,reduceCtorEq,BC],by simp[Nat.reduceAdd,Nat.reduceEqDiff,Nat.reduceLT,Nat.reduceLeDiff,↓reduceIte,BC]⟩,by omega,by omega⟩
    ·simp only[gF] at gs tI lI il
     have c5:(1:Int) < (h:Int):=by omega
     simp (maxSteps:=1000000) only [c5,gR,tP,bP,lX,lP,ttP,lS,ttS,↓gs,tI,lI,hbr,gN,↓gn1,pB,List.range,List.range.loop,gF,Nat.reduceAdd,reduceCtorEq,Nat.reduceEqDiff,Nat.reduceAdd,Nat.reduceSub,Nat.reduceMul,Nat.reduceLT,Int.reduceToNat,Int.reduceLT,Int.reduceLE,Int.reduceAdd,Int.reduceNeg,↓reduceIte,bC,aF,BC,↓PC]
     exact⟨by omega,by omega,by omega,by omega,2,⟨[(0,0),(1,0),(2,0),(3,0),(11,0),(9,0),(6,0),(5,0)],by simp[hin,List.range.loop,Nat.reduceAdd,rX,cZ,Nat.reduceAdd,Nat.reduceEqDiff,Nat.reduceLT,Nat.reduceLeDiff,↓reduceIte,reduceCtorEq,BC],by simp[Nat.reduceAdd,Nat.reduceEqDiff,Nat.reduceLT,Nat.reduceLeDiff,↓reduceIte,BC]⟩,by omega,by omega⟩
    ·simp only[gF] at gs tI lI il
     have c5:(2:Int) < (h:Int):=by omega
     simp (maxSteps:=1000000) only [c5,gR,tP,bP,lX,lP,ttP,lS,ttS,↓gs,tI,lI,hbr,gN,↓gn1,pB,List.range,List.range.loop,gF,Nat.reduceAdd,reduceCtorEq,Nat.reduceEqDiff,Nat.reduceAdd,Nat.reduceSub,Nat.reduceMul,Nat.reduceLT,Int.reduceToNat,Int.reduceLT,Int.reduceLE,Int.reduceAdd,Int.reduceNeg,↓reduceIte,bC,aF,BC,↓PC]
     exact⟨by omega,by omega,by omega,by omega,3,⟨[(0,0),(1,0),(2,0),(3,0),(12,0),(10,0),(6,0),(7,0),(5,0)],by simp[hin,List.range.loop,Nat.reduceAdd,rX,cZ,Nat.reduceAdd,Nat.reduceEqDiff,Nat.reduceLT,Nat.reduceLeDiff,↓reduceIte,reduceCtorEq,BC],by simp[Nat.reduceAdd,Nat.reduceEqDiff,Nat.reduceLT,Nat.reduceLeDiff,↓reduceIte,BC]⟩,by omega,by omega⟩
    ·simp only[gF] at gs tI lI il
     have c5:(3:Int) < (h:Int):=by omega
     simp (maxSteps:=1000000) only [c5,gR,tP,bP,lX,lP,ttP,lS,ttS,↓gs,tI,lI,hbr,gN,↓gn1,pB,List.range,List.range.loop,gF,Nat.reduceAdd,reduceCtorEq,Nat.reduceEqDiff,Nat.reduceAdd,Nat.reduceSub,Nat.reduceMul,Nat.reduceLT,Int.reduceToNat,Int.reduceLT,Int.reduceLE,Int.reduceAdd,Int.reduceNeg,↓reduceIte,bC,aF,BC,↓PC]
     exact⟨by omega,by omega,by omega,by omega,4,⟨[(0,0),(1,0),(2,0),(3,0),(13,0),(11,0),(6,0),(7,0),(8,0),(5,0)],by simp[hin,List.range.loop,Nat.reduceAdd,rX,cZ,Nat.reduceAdd,Nat.reduceEqDiff,Nat.reduceLT,Nat.reduceLeDiff,↓reduceIte,reduceCtorEq,BC],by simp[Nat.reduceAdd,Nat.reduceEqDiff,Nat.reduceLT,Nat.reduceLeDiff,↓reduceIte,BC]⟩,by omega,by omega⟩
    ·simp only[gF] at gs tI lI il
     have c5:(4:Int) < (h:Int):=by omega
     simp (maxSteps:=1000000) only [c5,gR,tP,bP,lX,lP,ttP,lS,ttS,↓gs,tI,lI,hbr,gN,↓gn1,pB,List.range,List.range.loop,gF,Nat.reduceAdd,reduceCtorEq,Nat.reduceEqDiff,Nat.reduceAdd,Nat.reduceSub,Nat.reduceMul,Nat.reduceLT,Int.reduceToNat,Int.reduceLT,Int.reduceLE,Int.reduceAdd,Int.reduceNeg,↓reduceIte,bC,aF,BC,↓PC]
     exact⟨by omega,by omega,by omega,by omega,5,⟨[(0,0),(1,0),(2,0),(3,0),(14,0),(12,0),(6,0),(7,0),(8,0),(9,0),(5,0)],by simp[hin,List.range.loop,Nat.reduceAdd,rX,cZ,Nat.reduceAdd,Nat.reduceEqDiff,Nat.reduceLT,Nat.reduceLeDiff,↓reduceIte,reduceCtorEq,BC],by simp[Nat.reduceAdd,Nat.reduceEqDiff,Nat.reduceLT,Nat.reduceLeDiff,↓reduceIte,BC]⟩,by omega,by omega⟩
    ·simp only[gF] at gs tI lI il
     have c5:(5:Int) < (h:Int):=by omega
     simp (maxSteps:=1000000) only [c5,gR,tP,bP,lX,lP,ttP,lS,ttS,↓gs,tI,lI,hbr,gN,↓gn1,pB,List.range,List.range.loop,gF,Nat.reduceAdd,reduceCtorEq,Nat.reduceEqDiff,Nat.reduceAdd,Nat.reduceSub,Nat.reduceMul,Nat.reduceLT,Int.reduceToNat,Int.reduceLT,Int.reduceLE,Int.reduceAdd,Int.reduceNeg,↓reduceIte,bC,aF,BC,↓PC]
     exact⟨by omega,by omega,by omega,by omega,6,⟨[(0,0),(1,0),(2,0),(3,0),(15,0),(13,0),(6,0),(7,0),(8,0),(9,0),(10,0),(5,0)],by simp[hin,List.range.loop,Nat.reduceAdd,rX,cZ,Nat.reduceAdd,Nat.reduceEqDiff,Nat.reduceLT,Nat.reduceLeDiff,↓reduceIte,reduceCtorEq,BC],by simp[Nat.reduceAdd,Nat.reduceEqDiff,Nat.reduceLT,Nat.reduceLeDiff,↓reduceIte,BC]⟩,by omega,by omega⟩
  ·obtain rfl:k=h:=by omega
   have c3:decide ((k:Int) < (k:Int))=false:=by simp
   have hk6:k=1∨k=2∨k=3∨k=4∨k=5∨k=6:=by omega
   simp (maxSteps:=1000000) only [c3,Nat.reduceEqDiff,↓reduceIte,BC,↓PC]
   rcases hk6 with rfl|rfl|rfl|rfl|rfl|rfl
   ·exact⟨[(0,0),(4,0),(5,0),(6,0)],by simp[pB,List.range,List.range.loop,gF,Nat.reduceAdd,Nat.reduceAdd,Nat.reduceEqDiff,Nat.reduceLT,Nat.reduceLeDiff,↓reduceIte,BC],by simp[Nat.reduceAdd,Nat.reduceLT,Nat.reduceLeDiff,BB]⟩
   ·exact⟨[(0,0),(4,0),(5,0),(6,0),(7,0)],by simp[pB,List.range,List.range.loop,gF,Nat.reduceAdd,Nat.reduceAdd,Nat.reduceEqDiff,Nat.reduceLT,Nat.reduceLeDiff,↓reduceIte,BC],by simp[Nat.reduceAdd,Nat.reduceLT,Nat.reduceLeDiff,BB]⟩
   ·exact⟨[(0,0),(4,0),(5,0),(6,0),(7,0),(8,0)],by simp[pB,List.range,List.range.loop,gF,Nat.reduceAdd,Nat.reduceAdd,Nat.reduceEqDiff,Nat.reduceLT,Nat.reduceLeDiff,↓reduceIte,BC],by simp[Nat.reduceAdd,Nat.reduceLT,Nat.reduceLeDiff,BB]⟩
   ·exact⟨[(0,0),(4,0),(5,0),(6,0),(7,0),(8,0),(9,0)],by simp[pB,List.range,List.range.loop,gF,Nat.reduceAdd,Nat.reduceAdd,Nat.reduceEqDiff,Nat.reduceLT,Nat.reduceLeDiff,↓reduceIte,BC],by simp[Nat.reduceAdd,Nat.reduceLT,Nat.reduceLeDiff,BB]⟩
   ·exact⟨[(0,0),(4,0),(5,0),(6,0),(7,0),(8,0),(9,0),(10,0)],by simp[pB,List.range,List.range.loop,gF,Nat.reduceAdd,Nat.reduceAdd,Nat.reduceEqDiff,Nat.reduceLT,Nat.reduceLeDiff,↓reduceIte,BC],by simp[Nat.reduceAdd,Nat.reduceLT,Nat.reduceLeDiff,BB]⟩
   ·exact⟨[(0,0),(4,0),(5,0),(6,0),(7,0),(8,0),(9,0),(10,0),(11,0)],by simp[pB,List.range,List.range.loop,gF,Nat.reduceAdd,Nat.reduceAdd,Nat.reduceEqDiff,Nat.reduceLT,Nat.reduceLeDiff,↓reduceIte,BC],by simp[Nat.reduceAdd,Nat.reduceLT,Nat.reduceLeDiff,BB]⟩
theorem lN {a b:List UInt8} (ha:a.length=16) (hb:b.length=16) :
  eF [.i .u8,.i .u8,.i .u8,.i .u8,.i .u8,.i .u8,.i .u8,.i .u8,.i .u8,.i .u8,.i .u8,.i .u8,.i .u8,.i .u8,.i .u8,.i .u8] (aB a) (aB b)=some (a==b):=by
 have h1:=yI a b [] [] [] true (by rw[ha,hb]) rfl
 rw[ha] at h1
 simp only[List.append_nil,Bool.and_true] at h1
 exact h1
theorem AAj (d:List UInt8) (hd:d.length=16) :
  Fun Tryz.prog aO 139 [.int .i64 (P2 0),.int .i64 0,.agg (aB d),.val (.slice none 0 0)] [] 0
   (.slc 0 0 1 1 none) [(0,⟨.own 56,[.slc 1 0 1 19 none]⟩),(1,⟨.own 5,aB (dV 1 [d])⟩)] 2:=by
 refine aR none Xq GW T1 (Nat.le_of_ble_eq_true rfl) (by decide) ?_
 conv in aJ _ _=>(reduce;simp only[aH,seval])
 rw[aQ]
 have c2:decide ((0:Int) ≥ P2 0)=false:=by decide
 have hl:(aB d).length=16:=by rw[aA,hd]
 simp only[Xq,Bj,c2,BC,↓PC,seval]
 have F94:=f94 (tS:=aO) 0 0 (by decide) (by decide)
 simp only[lJ (Eq.refl 0),jU (Eq.refl 0),lM (Eq.refl 0)] at F94
 refine⟨[(1,0)],_,_,_,_,_,F94,rfl,⟨⟨_,rfl,rfl,rfl,rfl⟩,trivial⟩,⟨by simp,trivial⟩,⟨by decide,trivial⟩,by simp,⟨fun _=>rfl,trivial⟩,?_⟩
 simp only[BC,↓PC,seval]
 refine⟨[],_,_,_,_,_,Ux,rfl,trivial,trivial,trivial,by simp,trivial,?_⟩
 have gl:=I4 hd
 have td:=List.take_of_length_le (show (aB d).length≤16 by omega)
 simp only[hl,td,↓gl,aF,BC,↓PC,seval]
 rw[aL]
 refine a8 GW (aN _ _) 5 ?_
 simp only[BC,↓PC,seval]
 exact⟨[(3,0),(2,0)],by simp[BC,seval]⟩
section
variable {T:List (Nat × List SV)} {call:bG} {fr0:Fr} {m0:bL} {r:List Opr} {done:List Dn} {n:Nat} {K:List Dn→Nat→Prop} {d:Option Nat} {op:SOp} {ks p h:List Nat} {g:Nat} {b:Bool}
theorem SI:oZ T call fr0 m0 [] done n K=K done n:=(rfl)
theorem SJ:oZ T call fr0 m0 (⟨d,op,none,ks,p,h⟩ :: r) done n K =
 iS T call (iZ (bM done p) (aU fr0 h)) (eD (fH (bM done p) m0)) n (fun v m' n'=>n≤n'∧oZ T call fr0 m0 r (done++[⟨d,v,dW n m',n,n'⟩]) n' K) op:=(rfl)
theorem SK:oZ T call fr0 m0 (⟨d,op,some (g,b),ks,p,h⟩ :: r) done n K=(match get (iZ (bM done p) (aU fr0 h)) g with
 | .bool t=>gd t b (iS T call (iZ (bM done p) (aU fr0 h)) (eD (fH (bM done p) m0)) n (fun v m' n'=>n≤n'∧oZ T call fr0 m0 r (done++[⟨d,v,dW n m',n,n'⟩]) n' K) op)
  (oZ T call fr0 m0 r (done++[⟨d,.val undef,[],n,n⟩]) n K)
 | .val (.tuple _)=>oZ T call fr0 m0 r (done++[⟨d,.val undef,[],n,n⟩]) n K
 | _=>False):=(rfl)
end
theorem I8 (η:Nat→Nat × Nat) {α:Type} (f:α→SV):∀ l:List α,SV.renL η (l.map f)=l.map (fun x=>(f x).ren η)
 | []=>by simp only[List.map_nil,SV.renL]
 | x :: l=>by simp only[List.map_cons,SV.renL,I8 η f l]
theorem LA {η:Nat→Nat × Nat} {b b' l l' k:Nat} (h1:∀ j,j < k→η (b+j)=(b'+j,0)) (h2:η l=(l',0)):SV.renL η (pB b l k)=pB b' l' k:=by
 have h3:∀ a c:List SV,SV.renL η (a++c)=SV.renL η a++SV.renL η c:=by
  intro a c
  induction a with
  | nil=>simp only[List.nil_append,SV.renL]
  | cons x a ih=>simp only[List.cons_append,SV.renL,ih]
 unfold pB
 rw[h3,I8]
 congr 1
 ·apply List.map_congr_left
  intro j hj
  simp only[SV.ren,h1 j (List.mem_range.1 hj),Nat.add_zero]
 ·simp only[SV.renL,SV.ren,h2,Nat.add_zero]
theorem LB (b l k:Nat):(pB b l k).length=k+1:=by simp[pB]
theorem I9 (b l k:Nat):(pB b l k)[k]?=some (.slc l 0 1 (gF k) none):=by
 unfold pB
 rw[List.getElem?_append_right (by simp)]
 simp
def Xt:bG:=iB 139 (aY Tryz.prog aO) (dR Bj cF)
theorem Pc:∀ f a m n K,Xt f a m n K→aY Tryz.prog aO f a m n K:=eZ (bA I7 bI)
theorem AAk (p d:List UInt8) (hp:p.length=16) (hd:d.length=16) :
  Fun Tryz.prog aO 102 [.agg (aB p),.int .i64 (P2 0),.int .i64 0,.agg (aB d),.val (.slice none 0 0)] [] 0 (.bool (nV (dV 1 [d])==p)) [] 0:=by
 refine aR none Xt Pc TU (Nat.le_of_ble_eq_true rfl) (by decide) ?_
 conv in aJ _ _=>(reduce;simp only[aH,seval])
 rw[aQ]
 have hl:(aB d).length=16:=by rw[aA,hd]
 have lp:(aB p).length=16:=by rw[aA,hp]
 have tp:=cI hp
 have td:=cI hd
 simp only[Xt,Bj,hl,td,BC,↓PC,seval]
 have F:=AAj d hd
 refine⟨[],_,_,_,_,_,F,?_,trivial,trivial,trivial,by simp,⟨fun _=>rfl,fun _=>rfl,trivial⟩,?_⟩
 ·simp only[SV.renL,SV.ren,aC]
 have il:=xH hd
 have gs:=Jn (cap:=none) il (by omega)
 have sl:=kX (dV 1 [d])
 have lS:(aB (nV (dV 1 [d]))).length=16:=by rw[aA,sl]
 have tI:List.take 19 (aB (dV 1 [d]))=aB (dV 1 [d]):=List.take_of_length_le (by rw[aA,il];omega)
 have lI:(aB (dV 1 [d])).length=19:=by rw[aA,il]
 have eq:=lN sl hp
 simp only[BC,↓PC,seval]
 iterate 3 (rw[SJ];simp only[BC,↓PC,seval])
 iterate 8 (rw[SK];simp only[lp,tp,lI,tI,↓gs,BC,↓PC,seval])
 rw[SI]
 simp only[eq,BC,↓PC,seval]
 exact⟨[],by simp[BC]⟩
theorem f64 (h i:Nat) (p d X:List UInt8) (hp:p.length=16) (hh:h≤6) (h0:0 < h) (hi:i < 2 ^ h) (hd:d.length=16) (hX:X.length=16 * h) :
  Fun Tryz.prog aO 102 [.agg (aB p),.int .i64 (P2 h),.int .i64 (i:Int),.agg (aB d),.slc 0 0 16 h none] [(0,⟨.view,aB X⟩)] 1 (.bool (nV (fW i d X h)==p)) [] 1:=by
 refine aR none Xt Pc TU (Nat.le_of_ble_eq_true rfl) (by decide) ?_
 conv in aJ _ _=>(reduce;simp only[aH,seval])
 rw[aQ]
 have hl:(aB d).length=16:=by rw[aA,hd]
 have lp:(aB p).length=16:=by rw[aA,hp]
 have tp:=cI hp
 have td:=cI hd
 simp only[Xt,Bj,hl,td,BC,↓PC,seval]
 have F:=f81 h i d X hh h0 hi hd hX
 refine⟨[(0,0)],_,_,_,_,_,F,?_,⟨⟨_,rfl,?_,?_⟩,trivial⟩,⟨by simp,trivial⟩,⟨by decide,trivial⟩,by simp,⟨fun _=>rfl,fun _=>rfl,trivial⟩,?_⟩
 ·simp only[SV.renL,SV.ren,aC,bB,List.getElem?_cons_zero,Option.getD_some]
 ·exact Nat.le_of_eq (Nat.zero_add _)
 ·simp only[bB,BB]
 have il:=pU (i:=i) hd hX h (Nat.le_refl _)
 have lk:gF h=37:=by obtain⟨k,rfl⟩:∃ k,h=k+1:=⟨h - 1,by omega⟩;rfl
 rw[lk] at il
 have gs:=Jn (cap:=none) il (by omega)
 have sl:=kX (fW i d X h)
 have tI:List.take 37 (aB (fW i d X h))=aB (fW i d X h):=List.take_of_length_le (by rw[aA,il];omega)
 have lI:(aB (fW i d X h)).length=37:=by rw[aA,il]
 have lS:(aB (nV (fW i d X h))).length=16:=by rw[aA,sl]
 have eq:=lN sl hp
 have rO:SV.renL (bB [(0,0)] 3) (pB 3 2 h)=pB 5 4 h:=LA (fun j _=>by unfold bB;rw[show 3+j=(j+2)+1 by omega];simp;omega) rfl
 have gO:=I9 5 4 h
 rw[lk] at gO
 have lO:=LB 5 4 h
 have hS:IntKind.i64.wrap (((h+1:Nat):Int) - 1)=(h:Int):=by rw[aD (by omega) (by omega)];omega
 have hle:(0:Int)≤(h:Int):=by omega
 generalize hI:fW i d X h=I at *
 generalize hOe:pB 5 4 h=O at *
 simp only[rO,BC,↓PC,seval]
 iterate 3 (rw[SJ];simp only[lO,BC,↓PC,seval])
 iterate 8 (rw[SK];simp only[lp,tp,lI,tI,↓gs,gO,lO,hS,hle,BC,↓PC,seval])
 rw[SI]
 simp only[eq,BC,↓PC,seval]
 exact⟨by omega,by omega,by omega,by omega,[(0,0)],by simp[BC]⟩
end Go.Proofs.YtmhkkalbijbplaaGreatDoor
