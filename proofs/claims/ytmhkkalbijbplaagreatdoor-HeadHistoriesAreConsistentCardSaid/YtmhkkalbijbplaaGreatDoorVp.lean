/- The proof, part Vp: ApD, TrA. -/
import Derived.Test.YtmhkkalbijbplaaGreatDoorVo
set_option linter.unusedSimpArgs false
set_option linter.unusedVariables false
set_option maxRecDepth 100000
set_option maxHeartbeats 16000000
namespace Go.Proofs.YtmhkkalbijbplaaGreatDoor
open Go Go.Sx
theorem Pf {tag:Int} {a b:List UInt8} (ha:a.length≤2 ^ 30) (hb:b.length≤2 ^ 30) :
  Bv [.int .i64 tag,.slc 0 0 1 2 none] [(0,⟨.view,[.str a,.str b]⟩)]=some (.agg (aB (dE tag [a,b])),[],1):=by
 unfold Bv
 simp only
 rw[show [SV.str a,SV.str b]=m9 [a,b] from rfl,mN]
 simp only[jO,List.length_cons,List.length_nil]
 rw[if_pos ⟨trivial,Pd ha hb⟩]
def Ia:List (FuncId × GS):=[(76,Bv),(47,vV)]
theorem Pg:∀ x∈Ia,dQ Tryz.prog aO x.1 x.2:=by
 intro x hx
 simp only[Ia,List.mem_cons,List.not_mem_nil,or_false] at hx
 rcases hx with rfl|rfl
 ·exact CN
 ·exact xC
def YC:bG:=dR Ia cF
theorem Ph:∀ f a m n K,YC f a m n K→aY Tryz.prog aO f a m n K:=bA Pg bI
theorem YD (d:List UInt8) (hd:d.length=16):Fun Tryz.prog aO 77 [.agg (aB d)] [] 0 (.agg (aB (dE 1 [d]))) [] 0:=by
 refine bT none YC Ph Z9 (Nat.le_of_ble_eq_true rfl) (fun η=>by simp only[SV.ren,aC]) ?_
 conv in aJ _ _=>(reduce;simp only[aH,seval])
 rw[aQ]
 have hl:(aB d).length=16:=by rw[aA,hd]
 have td:=cI hd
 have gt:=fE hd
 have go:=D7 (tag:=1) (s:=d) (by omega)
 have hO:=bK 1 [d]
 generalize dE 1 [d]=O at *
 have lO:(aB O).length=16:=by rw[aA,hO]
 have tO:=cI hO
 simp only[YC,Ia,↓gt,↓go,hl,td,lO,tO,bC,aF,BC,↓PC,seval]
theorem Pi (a b:List UInt8) (ha:a.length=16) (hb:b.length=16):Fun Tryz.prog aO 79 [.agg (aB a),.agg (aB b)] [] 0 (.agg (aB (dE 2 [a,b]))) [] 0:=by
 refine bT none YC Ph Zb (Nat.le_of_ble_eq_true rfl) (fun η=>by simp only[SV.ren,aC]) ?_
 conv in aJ _ _=>(reduce;simp only[aH,seval])
 rw[aQ]
 have hla:(aB a).length=16:=by rw[aA,ha]
 have hlb:(aB b).length=16:=by rw[aA,hb]
 have tda:=cI ha
 have tdb:=cI hb
 have gta:=fE ha
 have gtb:=fE hb
 have go:=Pf (tag:=2) (a:=a) (b:=b) (by omega) (by omega)
 have hO:=bK 2 [a,b]
 generalize dE 2 [a,b]=O at *
 have lO:(aB O).length=16:=by rw[aA,hO]
 have tO:=cI hO
 simp only[YC,Ia,↓gta,↓gtb,↓go,hla,hlb,tda,tdb,lO,tO,bC,aF,BC,↓PC,seval]
def ZK:List SV→Option SV
 | [.agg cells]=>match rQ cells with
  | some d=>if d.length=16 then some (.agg (aB (dE 1 [d]))) else none
  | none=>none
 | _=>none
theorem VA {d:List UInt8} (hd:d.length=16):ZK [.agg (aB d)]=some (.agg (aB (dE 1 [d]))):=by
 unfold ZK
 simp only[aT]
 rw[if_pos hd]
def ZL:List SV→Option SV
 | [.agg ca,.agg cb]=>match rQ ca,rQ cb with
  | some a,some b=>if a.length=16∧b.length=16 then some (.agg (aB (dE 2 [a,b]))) else none
  | _,_=>none
 | _=>none
theorem VB {a b:List UInt8} (ha:a.length=16) (hb:b.length=16):ZL [.agg (aB a),.agg (aB b)]=some (.agg (aB (dE 2 [a,b]))):=by
 unfold ZL
 simp only[aT]
 rw[if_pos ⟨ha,hb⟩]
def Bz:Tab:=⟨[(77,ZK),(79,ZL),(78,yX)],[]⟩
theorem GX:TabX Tryz.prog aO Bz:=by
 refine⟨fun x h args r hr=>?_,fun x h=>by simp[Bz] at h⟩
 simp only[Bz,List.mem_cons,List.not_mem_nil,or_false] at h
 rcases h with rfl|rfl|rfl
 ·simp only at hr
  unfold ZK at hr
  split at hr
  ·split at hr
   ·rename_i d hd
    split at hr
    ·rename_i hc
     cases hr
     rw[b8 hd]
     exact⟨YD d hc,fun η=>by simp only[SV.renL,SV.ren,aC],fun η=>by simp only[SV.renL,SV.ren,aC]⟩
    ·cases hr
   ·cases hr
  ·cases hr
 ·simp only at hr
  unfold ZL at hr
  split at hr
  ·split at hr
   ·rename_i a b ha hb
    split at hr
    ·rename_i hc
     cases hr
     rw[b8 ha,b8 hb]
     exact⟨Pi a b hc.1 hc.2,fun η=>by simp only[SV.renL,SV.ren,aC],fun η=>by simp only[SV.renL,SV.ren,aC]⟩
    ·cases hr
   ·cases hr
  ·cases hr
 ·exact (GT f103).1 (78,yX) (by simp) args r hr
def dM:Nat→List UInt8→List UInt8
 | 0,X=>dE 1 [X]
 | h+1,X=>dE 2 [dM h (X.take (16 * 2 ^ h)),dM h (X.drop (16 * 2 ^ h))]
theorem dJ (h:Nat) (X:List UInt8):(dM h X).length=16:=by cases h <;> exact bK _ _
def Dg (h:Nat):GS
 | [.slc 0 0 16 n none],[(0,⟨.view,cells⟩)]=>match rQ cells with
  | some X=>if n=2 ^ h∧X.length=16 * 2 ^ h then some (.agg (aB (dM h X)),[],1) else none
  | none=>none
 | _,_=>none
theorem xJ {h n:Nat} {X:List UInt8} (hn:n=2 ^ h) (hX:X.length=16 * 2 ^ h):Dg h [.slc 0 0 16 n none] [(0,⟨.view,aB X⟩)]=some (.agg (aB (dM h X)),[],1):=by
 unfold Dg
 simp only[aT]
 rw[if_pos ⟨hn,hX⟩]
def Jo (h:Nat):Prop:=∀ X:List UInt8,X.length=16 * 2 ^ h→Fun Tryz.prog aO 33 [.slc 0 0 16 (2 ^ h) none] [(0,⟨.view,aB X⟩)] 1 (.agg (aB (dM h X))) [] 1
theorem Dh {h:Nat} (H:Jo h):dQ Tryz.prog aO 33 (Dg h):=by
 intro a0 m0 r m1 n1 hh
 unfold Dg at hh
 split at hh
 ·split at hh
  ·rename_i X hX
   split at hh
   ·rename_i hc
    cases hh
    obtain⟨rfl,h2⟩:=hc
    rw[b8 hX]
    exact⟨H X h2,by simp[dA]⟩
   ·cases hh
  ·cases hh
 ·cases hh
theorem YE:Jo 0:=by
 intro X hX
 have hX:X.length=16:=hX
 show Fun Tryz.prog aO 33 [.slc 0 0 16 1 none] [(0,⟨.view,aB X⟩)] 1 (.agg (aB (dE 1 [X]))) [] 1
 refine aR none (gT Bz) (cN GX) WW (Nat.le_of_ble_eq_true rfl) (by decide) ?_
 conv in aJ _ _=>(reduce;simp only[aH,seval])
 rw[aQ]
 have hl:(aB X).length=16:=by rw[aA,hX]
 have td:=cI hX
 have gl:=VA hX
 have hO:=bK 1 [X]
 generalize dE 1 [X]=O at *
 have lO:(aB O).length=16:=by rw[aA,hO]
 have tO:=cI hO
 simp only[Bz,↓gl,hl,td,lO,tO,bC,aF,BC,↓PC,seval]
 exact⟨[(0,0)],by simp[BC]⟩
theorem YF {h:Nat} (hh:h < 6) (H:Jo h):Jo (h+1):=by
 intro X hX
 have e2:2 ^ (h+1)=2 ^ h+2 ^ h:=by rw[Nat.pow_succ];omega
 have gs:=GR h hh
 have n6:2 ^ h≤32:=Nat.le_trans (Nat.pow_le_pow_right (by decide) (show h≤5 by omega)) (by decide)
 have n1:1≤2 ^ h:=Nat.one_le_two_pow
 rw[e2] at hX ⊢
 unfold P2 at gs
 rw[e2] at gs
 refine aR none (dR [(33,Dg h)] (gT Bz)) (bA (fun x hx=>by simp only[List.mem_singleton] at hx;subst hx;exact Dh H) (cN GX)) WW (Nat.le_of_ble_eq_true rfl) (by decide) ?_
 conv in aJ _ _=>(reduce;simp only[aH,seval])
 rw[aQ]
 unfold dM
 have x1:(X.take (16 * 2 ^ h)).length=16 * 2 ^ h:=by rw[List.length_take];omega
 have x2:(X.drop (16 * 2 ^ h)).length=16 * 2 ^ h:=by rw[List.length_drop];omega
 have g1:=xJ (h:=h) rfl x1
 have g2:=xJ (h:=h) rfl x2
 have gn:=VB (dJ h (X.take (16 * 2 ^ h))) (dJ h (X.drop (16 * 2 ^ h)))
 have t1:List.take (2 ^ h * 16) (aB X)=aB (X.take (16 * 2 ^ h)):=by rw[Nat.mul_comm];simp[aB,List.map_take]
 have t2:List.take (2 ^ h * 16) (List.drop (2 ^ h * 16) (aB X))=aB (X.drop (16 * 2 ^ h)):=by
  rw[Nat.mul_comm,show List.drop (16 * 2 ^ h) (aB X)=aB (X.drop (16 * 2 ^ h)) by simp[aB,List.map_drop]]
  exact List.take_of_length_le (by rw[aA,x2];exact Nat.le_refl _)
 have lX:(aB X).length=16 * (2 ^ h+2 ^ h):=by rw[aA,hX]
 have r1:=dJ h (X.take (16 * 2 ^ h))
 have r2:=dJ h (X.drop (16 * 2 ^ h))
 generalize dM h (X.take (16 * 2 ^ h))=A at *
 generalize dM h (X.drop (16 * 2 ^ h))=B at *
 generalize X.take (16 * 2 ^ h)=X1 at *
 generalize X.drop (16 * 2 ^ h)=X2 at *
 have hO:=bK 2 [A,B]
 generalize dE 2 [A,B]=O at *
 have lO:(aB O).length=16:=by rw[aA,hO]
 have tO:=cI hO
 generalize hn:2 ^ h=k at *
 have c1:(((k+k:Nat):Int)==0)=false:=by simp;omega
 have c2:(((k+k:Nat):Int)==1)=false:=by simp;omega
 have c3:(0:Int)≤(k:Int):=by omega
 have c4:(k:Int)≤((k+k:Nat):Int):=by omega
 have c5:k * 16≤16 * (k+k):=by omega
 have c6:k+k - k=k:=by omega
 have c7:k * 16+k * 16≤16 * (k+k):=by omega
 have c8:(k+k) * 16≤16 * (k+k):=by omega
 have fA:=aX A
 have fB:=aX B
 simp only[Bz,↓gs,↓g1,↓g2,↓gn,Option.map_none,c1,c2,c3,c4,c5,c6,c7,c8,t1,t2,lX,fA,fB,lO,tO,oZ,bC,aF,BC,↓PC,seval]
 exact⟨Int.le_refl _,[(0,0)],by simp[BC]⟩
theorem mP:∀ h,h≤6→Jo h
 | 0,_=>YE
 | h+1,hh=>YF (by omega) (mP h (by omega))
variable {tS:List (Nat × List SV)}
theorem YG:Fun Tryz.prog tS 108 [.int .u8 1,.val (.slice none 0 0)] [] 0 (.slc 0 0 1 1 none) [(0,⟨.own 5,aB [1]⟩)] 1:=by
 refine fV Tryz.f108 (by kernel_rfl) (by decide) ?_
 conv in aJ _ _=>(reduce;simp only[aH,seval])
 simp only[NV,↓NP,seval]
 rw[aL]
 refine a8 (fun _ _ _ _ _ h=>h) (aN _ _) 1 ?_
 simp only[NV,↓NP,seval]
 exact⟨[(0,0)],by simp[NF,seval];rfl⟩
theorem VC:Fun Tryz.prog aO 66 [.val (.slice none 0 0)] [] 0 (.agg (aB (dE 1 []))) [] 0:=by
 refine dK Tryz.f66 (by kernel_rfl) (fun _=>by simp only[SV.ren,aC]) ?_
 conv in aJ _ _=>(reduce;simp only[aH,seval])
 have fs:=(Qt [1] (by decide) none).more GL
 have hO:=bK 1 []
 rw[show (jR [1]).take 16=dE 1 [] from rfl] at fs
 simp only[NV,↓NP,seval]
 refine aI [] YG ?_
 simp only[NV,NJ,↓NP,seval]
 refine aI [(1,0)] fs ?_
 simp only[hO,NV,NJ,↓NP,bC,seval]
def LD (h:Nat):Prop:=∀ X:List UInt8,X.length=16 * 2 ^ h→Fun Tryz.prog aO 66 [.slc 0 0 16 (2 ^ h) none] [(0,⟨.view,aB X⟩)] 1 (.agg (aB (dM h X))) [] 1
theorem VD:LD 0:=by
 intro X hX
 have hX:X.length=16:=hX
 show Fun Tryz.prog aO 66 [.slc 0 0 16 1 none] [(0,⟨.view,aB X⟩)] 1 (.agg (aB (dE 1 [X]))) [] 1
 refine dK Tryz.f66 (by kernel_rfl) (fun _=>by simp only[SV.ren,aC]) ?_
 conv in aJ _ _=>(reduce;simp only[aH,seval])
 have hm:(dV 1 [X]).length≤2 ^ 37:=by have:=(D6 (tag:=1) (s:=X) (by omega)).2.1;omega
 have fs:=(Qt (dV 1 [X]) hm none).more GL
 have hO:=bK 1 [X]
 rw[show (jR (dV 1 [X])).take 16=dE 1 [X] from rfl] at fs
 simp only[hX,NV,↓NP,seval]
 refine aI [] (f97 X hX) ?_
 simp only[NV,NJ,↓NP,seval]
 refine aI [(2,0)] fs ?_
 simp only[hO,NV,NJ,↓NP,bC,seval]
theorem VE {h:Nat} (hh:h < 6) (H:LD h):LD (h+1):=by
 intro X hX
 have e2:2 ^ (h+1)=2 ^ h+2 ^ h:=by rw[Nat.pow_succ];omega
 have fsp:=f106 (tS:=aO) h hh
 have n6:2 ^ h≤32:=Nat.le_trans (Nat.pow_le_pow_right (by decide) (show h≤5 by omega)) (by decide)
 have n1:1≤2 ^ h:=Nat.one_le_two_pow
 rw[e2] at hX ⊢
 unfold P2 at fsp
 rw[e2] at fsp
 refine dK Tryz.f66 (by kernel_rfl) (fun _=>by simp only[SV.ren,aC]) ?_
 conv in aJ _ _=>(reduce;simp only[aH,seval])
 have x1:(X.take (16 * 2 ^ h)).length=16 * 2 ^ h:=by rw[List.length_take];omega
 have x2:(X.drop (16 * 2 ^ h)).length=16 * 2 ^ h:=by rw[List.length_drop];omega
 have fr1:=H _ x1
 have fr2:=H _ x2
 have t1:List.take (16 * 2 ^ h) (aB X)=aB (X.take (16 * 2 ^ h)):=by simp[aB,List.map_take]
 have t2:List.take (16 * 2 ^ h) (List.drop (2 ^ h * 16) (aB X))=aB (X.drop (16 * 2 ^ h)):=by
  rw[Nat.mul_comm (2 ^ h),show List.drop (16 * 2 ^ h) (aB X)=aB (X.drop (16 * 2 ^ h)) by simp[aB,List.map_drop]]
  exact List.take_of_length_le (by rw[aA,x2];exact Nat.le_refl _)
 have r1:=dJ h (X.take (16 * 2 ^ h))
 have r2:=dJ h (X.drop (16 * 2 ^ h))
 unfold dM
 generalize dM h (X.take (16 * 2 ^ h))=A at *
 generalize dM h (X.drop (16 * 2 ^ h))=B at *
 generalize X.take (16 * 2 ^ h)=X1 at *
 generalize X.drop (16 * 2 ^ h)=X2 at *
 have hm:(dV 2 [A,B]).length≤2 ^ 37:=by have:=(Pd (tag:=2) (a:=A) (b:=B) (by omega) (by omega)).2.1;omega
 have fs:=(Qt (dV 2 [A,B]) hm none).more GL
 have hO:=bK 2 [A,B]
 rw[show (jR (dV 2 [A,B])).take 16=dE 2 [A,B] from rfl] at fs
 generalize dE 2 [A,B]=O at *
 generalize hn:2 ^ h=k at *
 have c1:(((k+k:Nat):Int)==0)=false:=by simp;omega
 have c2:(((k+k:Nat):Int)==1)=false:=by simp;omega
 have c3:(0:Int)≤(k:Int):=by omega
 have c4:(k:Int)≤((k+k:Nat):Int):=by omega
 have c5:k * 16≤16 * (k+k):=by omega
 have c6:k+k - k=k:=by omega
 have c7:k * 16+16 * k≤16 * (k+k):=by omega
 have c8:(k+k) * 16≤16 * (k+k):=by omega
 have c9:16 * k≤16 * (k+k):=by omega
 simp only[c1,c2,NV,↓NP,seval]
 refine aE fsp ?_
 simp only[hX,c3,c4,c8,Option.map_none,NV,↓NP,seval]
 refine aI [(0,0)] fr1 ?_
 simp only[x1,hX,c9,t1,c3,c4,c8,NV,NJ,↓NP,seval]
 refine aI [(0,k * 16)] fr2 ?_
 simp only[x2,hX,c6,c7,t2,NV,NJ,↓NP,seval]
 refine aI [] (f98 A B r1 r2) ?_
 simp only[NV,NJ,↓NP,seval]
 refine aI [(2,0)] fs ?_
 simp only[hO,NV,NJ,↓NP,bC,seval]
theorem Ib:∀ h,h≤6→LD h
 | 0,_=>VD
 | h+1,hh=>VE (by omega) (Ib h (by omega))
end Go.Proofs.YtmhkkalbijbplaaGreatDoor
