/- The proof, part Vm: KdA, KdB, KdC, KdD, HdA, HdB, HdC. -/
import Derived.Test.YtmhkkalbijbplaaGreatDoorVl
import Derived.Test.YtmhkkalbijbplaaGreatDoorChecked
import Derived.KernelRfl
set_option linter.unusedSimpArgs false
set_option linter.unusedVariables false
set_option maxRecDepth 100000
set_option maxHeartbeats 16000000
namespace Go.Proofs.YtmhkkalbijbplaaGreatDoor
open Go Go.Sx
variable {tS:List (Nat × List SV)}
def Db (key:List UInt8):List UInt8:=key++List.replicate (64 - key.length) 0
def EU (key:List UInt8) (w:Int) (i:Nat):List UInt8:=fR key w i++(Db key).drop i
theorem IU {key:List UInt8} (h:key.length≤64):(Db key).length=64:=by simp[Db];omega
theorem PP {key:List UInt8} (h:key.length≤64) {i:Nat} (hi:i < 64):(Db key)[i]?=some (key.getD i 0):=by
 unfold Db
 rw[List.getD_eq_getElem?_getD]
 by_cases hk:i < key.length
 ·rw[List.getElem?_append_left hk,List.getElem?_eq_getElem hk];rfl
 ·rw[List.getElem?_append_right (by omega),List.getElem?_replicate,if_pos (by omega),List.getElem?_eq_none (by omega)];rfl
theorem PQ {key:List UInt8} (h:key.length≤64) (w:Int) {i:Nat} (hi:i≤64):(EU key w i).length=64:=by
 simp[EU,kK,IU h];omega
theorem PS {key:List UInt8} (h:key.length≤64) (w:Int) {i:Nat} (hi:i < 64):(EU key w i)[i]?=some (key.getD i 0):=by
 unfold EU
 rw[List.getElem?_append_right (by rw[kK];exact Nat.le_refl _),kK,Nat.sub_self,List.getElem?_drop,Nat.add_zero,PP h hi]
theorem PT {key:List UInt8} (h:key.length≤64) (w:Int) {i:Nat} (hi:i < 64):aF (aB (EU key w i)) i [SV.byte (Bi key w i)]=aB (EU key w (i+1)):=by
 unfold aF EU
 have e1:aB (fR key w i++(Db key).drop i)=aB (fR key w i)++aB ((Db key).drop i):=(cE _ _).symm
 rw[e1,List.take_left' (by rw[aA,kK]),FF]
 have e2:(aB (fR key w i)++aB ((Db key).drop i)).drop (i+1)=aB ((Db key).drop (i+1)):=by
  rw[← List.drop_drop,List.drop_left' (by rw[aA,kK])]
  simp[aB,List.map_drop]
 simp only[List.length_cons,List.length_nil,Nat.zero_add]
 rw[e2,cE]
theorem Rz {key:List UInt8} (h:key.length≤64) (w:Int):EU key w 64=fR key w 64:=by
 unfold EU
 rw[List.drop_of_length_le (by rw[IU h];exact Nat.le_refl _),List.append_nil]
theorem PU {key:List UInt8} (h:key.length≤64):aF (List.replicate 64 (.int .u8 0)) 0 (aB key)=aB (Db key):=by
 unfold aF Db
 rw[List.take_zero,List.nil_append,Nat.zero_add,aA,List.drop_replicate,← cE]
 simp[aB,SV.byte]
theorem Xf (key:List UInt8) (w:Int) (hk:key.length≤64):Fun Tryz.prog tS 149 [.int .u8 w,.ptr 0 0] [(0,⟨.view,[.str key]⟩)] 1 (.str (fR key w 64)) [] 1:=by
 refine dK Tryz.f149 (by kernel_rfl) (fun _=>rfl) ?_
 conv in aJ _ _=>(reduce;simp only[aH,seval])
 have hm:min key.length 64=key.length:=Nat.min_eq_left hk
 simp only[hm,NV,↓NP,bC,seval]
 rw[aL]
 refine bF (fun _ _ _ _ _ h=>h) (σ:=Nat) (fun i=>[(9,.int .i64 (i:Int)),(4,.ptr 1 0),(0,.int .u8 w)]) (fun i=>[(1,⟨.own 147,aB (EU key w i)⟩)]) (fun _=>2) (fun i=>i≤64) (fun i=>64 - i) 0 ?_ (Nat.zero_le _) ?_
 ·refine⟨[(0,0),(1,0)],?_,by simp[NF,seval]⟩
  simp only[NF,seval]
  exact PU hk
 ·intro i hi
  have hl:=PQ hk w hi
  by_cases h:i < 64
  ·have c1:(i:Int) < 64:=by omega
   have c2:(0:Int)≤(i:Int):=by omega
   have wi:IntKind.i64.wrap ((i:Int)+1)=((i+1:Nat):Int):=by rw[aD (by omega) (by omega)];omega
   have g:=fL (PS hk w h)
   have st:=PT hk w h
   have e:=AZ ((key.getD i 0).toNat:Int) w
   unfold Bi at st
   simp only[c1,c2,wi,g,NV,↓NP,bC,seval]
   rw[e,st]
   exact⟨by omega,i+1,⟨[(0,0),(1,0)],by simp only[NF,seval],by simp[NF,seval]⟩,by omega,by omega⟩
  ·obtain rfl:i=64:=by omega
   have e:=kK key w 64
   have tk:List.take 64 (aB (fR key w 64))=aB (fR key w 64):=List.take_of_length_le (by rw[aA,e];exact Nat.le_refl _)
   simp only[Rz hk w,e,tk,NV,↓NP,seval]
theorem PV (m:List UInt8):Br ((oJ.add m).add (jQ (oJ.add m).n)).s=jR m:=by
 unfold jR vY
 rw[HS.add_app,y4]
theorem Jj (key text:List UInt8) (hk:key.length≤64) (ht:text.length≤2 ^ 30):Fun Tryz.prog aO 119 [.str key,.str text] [] 0 (.str (BM key text)) [] 0:=by
 refine dK Tryz.f119 (by kernel_rfl) (fun _=>rfl) ?_
 conv in aJ _ _=>(reduce;simp only[aH,seval])
 have c0:¬ (key.length:Int) > 64:=by omega
 have lP:=fun w=>kK key w 64
 have hn:∀ m:List UInt8,m.length≤2 ^ 40→(oJ.add m).n < 2 ^ 58:=fun m h=>by rw[y4];omega
 have cat:∀ a b:List UInt8,a.length≤64→b.length≤2 ^ 30→(a++b).length≤2 ^ 40:=fun a b h1 h2=>by rw[List.length_append];omega
 have lS:=jS (fR key 54 64++text)
 simp only[c0,NV,↓NP,seval]
 refine aE f52 ?_
 simp only[HS.l_flat,NV,↓NP,seval]
 refine aI [(0,0)] (Xf key 54 hk) ?_
 simp only[HS.l_flat,NV,NJ,↓NP,seval]
 refine aE ((f53 oJ (fR key 54 64) (kW []) (by rw[lP];decide)).more GL) ?_
 simp only[HS.l_flat,NV,↓NP,seval]
 refine aE ((f53 (oJ.add (fR key 54 64)) text (kW _) (by rw[y4,lP];omega)).more GL) ?_
 simp only[HS.l_flat,HS.add_app,NV,↓NP,seval]
 refine aE ((f54 (oJ.add (fR key 54 64++text)) (kW _) (hn _ (cat _ _ (by rw[lP];decide) ht))).more GL) ?_
 simp only[HS.l_flat,PV,lS,NV,↓NP,bC,seval]
 have lS2:=jS (fR key 92 64++jR (fR key 54 64++text))
 refine aE f52 ?_
 simp only[HS.l_flat,NV,↓NP,seval]
 refine aI [(0,0)] (Xf key 92 hk) ?_
 simp only[HS.l_flat,NV,NJ,↓NP,seval]
 refine aE ((f53 oJ (fR key 92 64) (kW []) (by rw[lP];decide)).more GL) ?_
 simp only[HS.l_flat,lS,NV,↓NP,seval]
 refine aE ((f53 (oJ.add (fR key 92 64)) (jR (fR key 54 64++text)) (kW _) (by rw[y4,lP,lS];decide)).more GL) ?_
 simp only[HS.l_flat,HS.add_app,NV,↓NP,seval]
 refine aE ((f54 (oJ.add (fR key 92 64++jR (fR key 54 64++text))) (kW _) (hn _ (cat _ _ (by rw[lP];decide) (by rw[lS];decide)))).more GL) ?_
 simp only[HS.l_flat,PV,lS2,NV,↓NP,bC,seval]
 rfl
theorem iC {s:List UInt8} (h:s.length≤2 ^ 20):(bU s).length≤2 ^ 21:=by
 have e1:=aS (s.length:Int)
 simp only[bU,List.length_append];omega
theorem h83 (key label p:List UInt8) (hk:key.length≤64) (h1:label.length≤2 ^ 20) (h2:p.length≤2 ^ 20) :
  Fun Tryz.prog aO 83 [.str key,.str label,.slc 0 0 1 1 none] [(0,⟨.view,[.str p]⟩)] 1 (.str (yV key label p)) [] 1:=by
 refine dK Tryz.f83 (by kernel_rfl) (fun _=>rfl) ?_
 conv in aJ _ _=>(reduce;simp only[aH,seval])
 have l1:=iC h1
 have l2:=iC h2
 have fm:=Jj key (BP label p) hk (IS h1 h2)
 unfold yV
 unfold BP at *
 simp only[eq_self,List.map_cons,List.map_nil,Nat.zero_add,gV,cG,cB,aW,b6,cC,↓fZ,↓i6,Opd.ev,Sx.get,put,bQ,fF,aU,Az,seval]
 refine aI [] (f33 label (by omega)) ?_
 simp only[and_self,eq_self,Int.cast_ofNat_Int,true_and,imp_self,List.length_nil,List.nil_append,List.cons_append,Nat.add_zero,cG,cB,aW,b6,cC,cK,↓fZ,↓sJ,Opd.ev,Sx.get,put,bQ,fF,aU,dT,bB,SV.ren,SV.renL,cQ,bZ,qM,Kind.isOwn,aC,List.getElem?_nil,Option.getD_none,Nat.sub_zero,Int.cast_ofNat_Int,aK,aM,aG,fX,seval]
 rw[aL]
 refine a8 (fun _ _ _ _ _ h=>h) (aN _ _) 2 ?_
 simp only[eq_self,decide_true,Int.cast_ofNat_Int,true_and,List.getElem?_cons_zero,List.length_cons,List.length_nil,List.map_cons,List.map_nil,Nat.zero_add,Nat.add_zero,cG,↓mU,cB,aW,eK,b6,cC,dB,cK,H7,↓mL,↓DA,↓fZ,↓gL,↓i6,↓eJ,↓cL,Opd.ev,Sx.get,put,bQ,fF,aU,rd,Nat.mul_one,Int.cast_ofNat_Int,seval]
 refine aI [] (f33 p (by omega)) ?_
 generalize bU label=A at *
 generalize bU p=B at *
 simp only[cE,SV.flatL,SV.flat,Bool.and_self,and_self,wrap64,eq_self,decide_false,true_and,imp_self,List.length_nil,List.nil_append,List.cons_append,List.drop_zero,List.map_cons,List.map_nil,Nat.zero_add,Nat.add_zero,cG,↓nU,cB,aW,b6,cC,dB,i5,mX,oC,oD,Fh,H7,↓DB,↓o3,↓fZ,↓gL,↓wT,↓eJ,↓iO,↓gK,↓cL,Opd.ev,Sx.get,put,bQ,fF,aU,rd,rm,dT,bB,SV.ren,SV.renL,cQ,bZ,qM,Kind.isOwn,aC,List.getElem?_nil,Option.getD_none,Nat.sub_zero,Nat.le_refl,aA,Nat.mul_one,List.length_append,kV,dD,bR,aK,aM,aG,fX,seval]
 refine⟨by omega,aE fm ?_⟩
 simp only[SV.flatL,SV.flat,Bool.and_self,and_self,eq_self,dN,cG,cB,aW,iW,vG,↓fZ,↓dY,uI,Opd.ev,Sx.get,put,bQ,fF,aU,dX,seval]
theorem Jk:bY.length=16:=rfl
theorem hOf (tag:Int) (ps:List (List UInt8)) (h:Kg tag ps):Fun Tryz.prog aO 131 [.int .i64 tag,.slc 0 0 1 ps.length none] [(0,⟨.view,m9 ps⟩)] 1 (.agg (aB (dE tag ps))) [] 1:=
 (f39 tag ps h.1 (by have:=h.2.1;omega) (by have:=h.2.2;omega) none (fun c h=>by cases h)).more GL
theorem Xg (k h t:Nat) (v:List UInt8) (hk:k≤34) (hh:h≤t) (S7:t≤15) (hv:v.length=16) :
  Fun Tryz.prog aO 129 [.int .i64 (k:Int),.int .i64 (h:Int),.int .i64 (t:Int),.agg (aB v)] [] 0 (.agg (aB (iV k (t - h) h v))) [] 0:=by
 refine dK Tryz.f129 (by kernel_rfl) (fun _=>by simp only[SV.ren,aC]) ?_
 conv in aJ _ _=>(reduce;simp only[aH,seval])
 have e1:=aS (k:Int)
 simp only[SV.flatL,SV.flat,Bool.and_self,eq_self,true_and,List.map_cons,List.map_nil,Nat.zero_add,gV,cG,cB,aW,b6,cC,↓B6,↓fZ,↓AH,↓wT,Opd.ev,Sx.get,put,bQ,fF,aU,SV.cells?,Az,seval]
 refine aE (f93 (k:Int) 34 (by omega) (by omega)) ?_
 simp only[SV.flatL,SV.flat,Bool.and_self,yP,eq_self,true_and,List.map_cons,List.map_nil,↓H6,cB,aW,Ha,yP,Bool.not_true,Bool.not_true,↓fZ,↓MH,↓wT,uI,Opd.ev,Sx.get,put,bQ,fF,aU,seval]
 refine aE (f93 (h:Int) 15 (by omega) (by omega)) ?_
 simp only[SV.flatL,SV.flat,Bool.and_self,yP,eq_self,true_and,List.map_cons,List.map_nil,↓H6,↓nU,cB,aW,Ha,yP,Bool.not_true,Bool.not_true,↓fZ,↓Fo,↓MH,↓wT,uI,Opd.ev,Sx.get,put,bQ,fF,aU,seval]
 refine aE (f93 (t:Int) 15 (by omega) (by omega)) ?_
 simp only[SV.flatL,SV.flat,Bool.and_self,yP,eq_self,true_and,List.map_cons,List.map_nil,cG,↓H6,↓nU,cB,aW,Ha,yP,Bool.not_true,eK,b6,Bool.not_true,cC,dB,↓fZ,↓Fo,↓MH,↓i6,uI,Opd.ev,Sx.get,put,bQ,fF,aU,seval]
 refine aI [] (f34 (k:Int)) ?_
 simp only[and_self,eq_self,true_and,imp_self,List.length_nil,List.nil_append,List.cons_append,List.drop_zero,Nat.zero_add,Nat.add_zero,cG,cB,aW,b6,cC,cK,↓DB,↓fZ,↓gK,Opd.ev,Sx.get,put,bQ,fF,aU,rd,dT,bB,SV.ren,SV.renL,cQ,bZ,qM,Kind.isOwn,aC,List.getElem?_nil,Option.getD_none,Nat.sub_zero,Nat.le_refl,aA,Nat.mul_one,kV,dD,bR,aK,aM,aG,fX,seval]
 rw[aL]
 refine bF (fun _ _ _ _ _ h=>h) (σ:=Nat × List UInt8) (fun x=>[(10,.int .i64 (x.1:Int)),(9,.str (aP (k:Int))),(8,.ptr 1 0),(7,.ptr 0 0),(2,.int .i64 (t:Int))]) (fun x=>[(1,⟨.own 24,aB bY⟩),(0,⟨.own 24,aB x.2⟩)]) (fun _=>2)
  (fun x=>x.1≤t∧x.2.length=16∧iV k (t - x.1) x.1 x.2=iV k (t - h) h v) (fun x=>t - x.1) (h,v) ?_ ⟨hh,hv,rfl⟩ ?_
 ·exact⟨[(0,0),(1,0)],by simp only[dS,aK,aM,aG,bB,b7,rd,Option.getD_some,List.getElem?_cons_zero,List.getElem?_cons_succ,List.length_cons,List.length_nil,Nat.zero_add,Nat.add_zero,Kind.isOwn,List.take_zero,and_self,and_true,true_and,exists_eq_left',Option.some.injEq,ne_eq,not_false_eq_true,implies_true,List.not_mem_nil,false_imp_iff,Bool.true_or,forall_const,List.mem_cons,or_false,forall_eq,Nat.succ_ne_self,aC,seval] <;> rfl,by simp[dI,eX,bB,SV.ren,Option.getD_some,List.length_cons,List.length_nil,Nat.zero_add,Nat.add_zero,and_self,Nat.succ_ne_self,seval]⟩
 ·rintro⟨j,u⟩ ⟨hj,hu,he⟩
  simp only at hj hu he ⊢
  by_cases hj2:j < t
  ·have c1:(j:Int) < (t:Int):=by omega
   have v4:IntKind.i64.wrap ((j:Int)+1)=((j+1:Nat):Int):=by rw[aD (by omega) (by omega)];omega
   have e2:=aS (j:Int)
   rw[show t - j=(t - (j+1))+1 by omega] at he
   simp only[iV] at he
   have fO:Fun Tryz.prog aO 131 [.int .i64 4,.slc 0 0 1 3 none] [(0,⟨.view,[.str (aP (k:Int)),.str (aP (j:Int)),.str u]⟩)] 1 _ [] 1:=hOf 4 [aP (k:Int),aP (j:Int),u] (Ot (by omega) (by omega) (by omega))
   have hO:=bK 4 [aP (k:Int),aP (j:Int),u]
   generalize dE 4 [aP (k:Int),aP (j:Int),u]=O at *
   simp only[c1,eq_self,decide_true,true_and,List.getElem?_cons_zero,List.getElem?_cons_succ,List.nil_append,List.cons_append,List.take_succ_cons,List.take_zero,List.map_cons,List.map_nil,cG,↓mU,cB,aW,eK,b6,Cx,cC,dB,cK,↓fZ,↓gL,↓i6,↓eJ,↓cL,OE,Ay,Opd.ev,Sx.get,put,bQ,fF,aU,iZ,fH,bM,eD,dW,Nat.le_refl,seval]
   refine aI [] (f34 (j:Int)) ?_
   simp only[hu,and_self,eq_self,Int.cast_ofNat_Int,true_and,imp_self,List.getElem?_cons_zero,List.getElem?_cons_succ,List.length_cons,List.length_nil,List.append_nil,List.nil_append,List.cons_append,List.take_succ_cons,List.take_zero,List.drop_succ_cons,List.drop_zero,List.reverse_cons,List.reverse_nil,List.map_cons,List.map_nil,Nat.zero_add,Nat.add_zero,cB,aW,N7,↓g8,↓DB,↓Aw,↓i6,↓uE,↓gK,↓eG,↓TQ,OE,Ay,Opd.ev,Sx.get,put,bQ,fF,aU,iZ,fH,bM,jJ,eD,dW,rd,SV.cells?,SV.one,dT,bB,SV.ren,SV.renL,cQ,bZ,qM,Kind.isOwn,aC,List.getElem?_nil,Option.getD_none,Nat.sub_zero,Nat.le_refl,aA,Nat.mul_one,Int.cast_ofNat_Int,En,Eo,qE,b9,kV,dD,bR,aK,aM,aG,fX,seval]
   refine aI [(3,0)] fO ?_
   simp only[v4,hu,hO,and_self,iA,false_imp_iff,eq_self,true_and,implies_true,List.getElem?_cons_zero,List.length_cons,List.length_nil,List.nil_append,List.take_succ_cons,List.drop_zero,List.take_nil,List.map_cons,List.map_nil,Nat.zero_add,Nat.add_zero,dN,cG,cB,aW,b6,Bool.false_or,mX,↓nK,↓fZ,↓gL,↓eJ,↓cL,Opd.ev,Sx.get,put,bQ,fF,aU,rd,bC,SV.cells?,dT,bB,SV.ren,SV.renL,cQ,bZ,qM,Kind.isOwn,aC,Option.getD_some,Nat.le_refl,aA,b9,aK,aM,aG,fX,Option.some.injEq,exists_eq_left',List.not_mem_nil,ne_eq,seval]
   exact⟨(j+1,O),⟨[(0,0),(1,0)],by simp only[dS,aK,aM,aG,bB,b7,rd,Option.getD_some,List.getElem?_cons_zero,List.getElem?_cons_succ,List.length_cons,List.length_nil,Nat.zero_add,Nat.add_zero,Kind.isOwn,List.take_zero,and_self,true_and,exists_eq_left',Option.some.injEq,ne_eq,not_false_eq_true,implies_true,List.not_mem_nil,false_imp_iff,Bool.true_or,forall_const,List.mem_cons,or_false,forall_eq,Nat.succ_ne_self,aC,seval],by simp[dI,eX,bB,SV.ren,Option.getD_some,List.length_cons,List.length_nil,Nat.zero_add,Nat.add_zero,and_self,Nat.succ_ne_self,seval]⟩,⟨by simp only;omega,hO,he⟩,by simp only;omega⟩
  ·obtain rfl:j=t:=by omega
   have c9:¬ (j:Int) < (j:Int):=by omega
   have e0:u=iV k (j - h) h v:=by simpa [iV] using he
   rw[← e0]
   simp only[c9,hu,Jk,and_self,nJ,eq_self,decide_false,List.drop_zero,List.map_cons,List.map_nil,Nat.zero_add,dN,cG,↓nU,cB,aW,b6,cC,dB,i5,iW,oC,oD,vG,↓mL,↓nK,↓fZ,↓gL,↓eJ,↓cL,↓dY,Opd.ev,Sx.get,put,bQ,fF,aU,rd,bC,SV.cells?,dX,Nat.le_refl,aA,b9,kV,seval]
theorem Xl (seed:List UInt8) (k:Int) (hk:seed.length≤64):Fun Tryz.prog aO 130 [.str seed,.int .i64 k] [] 0 (.agg (aB (GN seed k))) [] 0:=by
 refine dK Tryz.f130 (by kernel_rfl) (fun _=>by simp only[SV.ren,aC]) ?_
 conv in aJ _ _=>(reduce;simp only[aH,UInt8.reduceOfNat,Int.reduceOfNat,Int.reduceNegSucc])
 have e1:=aS k
 have fd:=h83 seed [99,104,97,105,110] (aP k) hk (by decide) (by omega)
 have hl:=xF seed [99,104,97,105,110] (aP k)
 unfold GN
 generalize yV seed [99,104,97,105,110] (aP k)=D at *
 have uT:(D.take 16).length=16:=by simp[hl]
 simp (maxSteps:=1000000) only [NV,↓NP,reduceCtorEq,Nat.reduceEqDiff,Nat.reduceAdd,↓reduceIte]
 refine aI [] (f34 k) ?_
 simp (maxSteps:=1000000) only [NV,NJ,↓NP,Nat.reduceEqDiff,Nat.reduceAdd,↓reduceIte]
 refine aI [(2,0)] fd ?_
 simp (maxSteps:=1000000) only [hl,uT,NV,NJ,↓NP,reduceCtorEq,Nat.reduceEqDiff,Nat.reduceAdd,Nat.reduceSub,Nat.reduceLT,Int.reduceToNat,Int.reduceLE,↓reduceIte,bC]
theorem h88 (seed:List UInt8) (k:Int) (hk:seed.length≤64):Fun Tryz.prog aO 88 [.str seed,.int .i64 k] [] 0 (.str (gM seed k)) [] 0:=by
 refine dK Tryz.f88 (by kernel_rfl) (fun _=>rfl) ?_
 conv in aJ _ _=>(reduce;simp only[aH,UInt8.reduceOfNat,Int.reduceOfNat,Int.reduceNegSucc])
 have e1:=aS k
 have fd:=h83 seed [108,101,97,102] (aP k) hk (by decide) (by omega)
 unfold gM
 simp (maxSteps:=1000000) only [NV,↓NP,reduceCtorEq,Nat.reduceEqDiff,Nat.reduceAdd,↓reduceIte]
 refine aI [] (f34 k) ?_
 simp (maxSteps:=1000000) only [NV,NJ,↓NP,Nat.reduceEqDiff,Nat.reduceAdd,↓reduceIte]
 refine aI [(1,0)] fd ?_
 simp (maxSteps:=1000000) only [NV,NJ,↓NP,Nat.reduceEqDiff,Nat.reduceSub,Nat.reduceLT,↓reduceIte]
theorem AAg (seed:List UInt8) (k:Nat) (hk:k < 35) (hs:seed.length≤64):Fun Tryz.prog aO 166 [.int .i64 (k:Int),.ptr 0 0] [(0,⟨.view,[.str seed]⟩),(1,⟨.view,[]⟩),(2,⟨.view,[]⟩)] 3 (.agg (aB (A3 seed k))) [] 3:=by
 refine dK Tryz.f166 (by kernel_rfl) (fun _=>by simp only[SV.ren,aC]) ?_
 conv in aJ _ _=>(reduce;simp only[aH,UInt8.reduceOfNat,Int.reduceOfNat,Int.reduceNegSucc])
 have uT:=sQ seed (k:Int)
 have hp:=xG seed k
 simp (maxSteps:=1000000) only [NV,↓NP,reduceCtorEq,Nat.reduceEqDiff,Nat.reduceAdd,↓reduceIte]
 refine aE (Xl seed (k:Int) hs) ?_
 simp (maxSteps:=1000000) only [NV,↓NP,Nat.reduceEqDiff,↓reduceIte]
 refine aE (Xg k 0 15 (GN seed (k:Int)) (by omega) (by omega) (by omega) uT) ?_
 rw[show iV k (15 - 0) 0 (GN seed (k:Int))=A3 seed k from rfl]
 simp (maxSteps:=1000000) only [hp,NV,↓NP,reduceCtorEq,Nat.reduceEqDiff,Nat.reduceAdd,↓reduceIte,bC]
theorem AAh (seed d:List UInt8) (k:Nat) (hk:k < 35) (hs:seed.length≤64):Fun Tryz.prog aO 128 [.int .i64 (k:Int),.ptr 0 0,.ptr 1 0]
  [(0,⟨.view,[.slc 2 0 1 35 (some 35)]⟩),(1,⟨.view,[.str seed]⟩),(2,⟨.view,d9 (mO d)⟩)] 3 (.agg (aB (GP seed d k))) [] 3:=by
 refine dK Tryz.f128 (by kernel_rfl) (fun _=>by simp only[SV.ren,aC]) ?_
 conv in aJ _ _=>(reduce;simp only[aH,UInt8.reduceOfNat,Int.reduceOfNat,Int.reduceNegSucc])
 have uT:=sQ seed (k:Int)
 have hp:=qX seed d k
 obtain⟨ht,hg⟩:=o9 d hk
 have gg:=uH hg
 have c2:(0:Int)≤(k:Int):=by omega
 have c3:(k:Int) < 35:=by omega
 have dl:=xD d
 simp (maxSteps:=1000000) only [c2,c3,dl,gg,hk,NV,↓NP,reduceCtorEq,Nat.reduceEqDiff,Nat.reduceAdd,↓reduceIte]
 refine aE (Xl seed (k:Int) hs) ?_
 simp (maxSteps:=1000000) only [NV,↓NP,reduceCtorEq,Nat.reduceEqDiff,↓reduceIte]
 refine aE (Xg k 0 (tG d k) (GN seed (k:Int)) (by omega) (by omega) ht uT) ?_
 rw[show iV k (tG d k - 0) 0 (GN seed (k:Int))=GP seed d k from rfl]
 simp (maxSteps:=1000000) only [hp,NV,↓NP,reduceCtorEq,Nat.reduceEqDiff,Nat.reduceAdd,↓reduceIte,bC]
def jM (c0 c1 c2:List SV) (V:Nat→List UInt8):Nat→bL
 | 0=>[(3,⟨.own 160,[.val (.pointer none),.val (.slice none 0 0)]⟩),(0,⟨.view,c0⟩),(1,⟨.view,c1⟩),(2,⟨.view,c2⟩)]
 | k+1=>[(4,⟨.own 5,aB (jZ V (k+1))⟩),(3,⟨.own 160,[.ptr 3 0,.slc 4 0 1 (16 * (k+1)) none]⟩),(0,⟨.view,c0⟩),(1,⟨.view,c1⟩),(2,⟨.view,c2⟩)]
def jB:Nat→Nat
 | 0=>4
 | _+1=>5
theorem Xm (f:FuncId) (bs c0 c1 c2:List SV) (V:Nat→List UInt8) (hV:∀ k:Nat,k < 35→(V k).length=16∧Fun Tryz.prog aO f (.int .i64 (k:Int) :: bs) [(0,⟨.view,c0⟩),(1,⟨.view,c1⟩),(2,⟨.view,c2⟩)] 3 (.agg (aB (V k))) [] 3)
  (hr:∀ η:Nat→Nat × Nat,η 0=(0,0)→η 1=(1,0)→η 2=(2,0)→SV.renL η c0=c0∧SV.renL η c1=c1∧SV.renL η c2=c2∧SV.renL η bs=bs) :
  Fun Tryz.prog aO 127 [.fn f [] bs] [(0,⟨.view,c0⟩),(1,⟨.view,c1⟩),(2,⟨.view,c2⟩)] 3 (.str (jZ V 35)) [] 3:=by
 refine dK Tryz.f127 (by kernel_rfl) (fun _=>rfl) ?_
 conv in aJ _ _=>(reduce;simp only[aH,seval])
 have r0:=fun η h0 h1 h2=>(hr η h0 h1 h2).1
 have r1:=fun η h0 h1 h2=>(hr η h0 h1 h2).2.1
 have r2:=fun η h0 h1 h2=>(hr η h0 h1 h2).2.2.1
 have rb:=fun η h0 h1 h2=>(hr η h0 h1 h2).2.2.2
 simp only[eq_self,gV,cG,cB,aW,b6,cC,cK,↓fZ,↓AH,Opd.ev,put,bQ,fF,aU,Az,seval]
 rw[aL]
 refine bF (fun _ _ _ _ _ h=>h) (σ:=Nat) (fun k=>[(6,.int .i64 (k:Int)),(3,.ptr 3 0),(0,.fn f [] bs)]) (jM c0 c1 c2 V) jB (fun k=>k≤35) (fun k=>35 - k) 0 ?_ (Nat.zero_le _) ?_
 ·exact⟨[(0,0),(1,0),(2,0),(3,0)],by simp only[jM,jB,r0,r1,r2,dS,aK,aM,aG,bB,b7,rd,SV.ren,SV.renL,Option.getD_some,List.getElem?_cons_zero,List.getElem?_cons_succ,List.length_cons,List.length_nil,Nat.zero_add,Nat.add_zero,Kind.isOwn,List.take_succ_cons,List.take_zero,List.nil_append,List.cons_append,and_self,true_and,exists_eq_left',Option.some.injEq,List.drop_zero,List.take_length,Nat.le_refl,ne_eq,not_false_eq_true,implies_true,List.not_mem_nil,false_imp_iff,Bool.false_or,Bool.true_or,forall_const,List.mem_cons,or_false,forall_eq_or_imp,forall_eq,Nat.succ_ne_self,seval],by simp[rb,dI,eX,bB,SV.ren,SV.renL,Option.getD_some,List.length_cons,List.length_nil,Nat.zero_add,Nat.add_zero,and_self,seval]⟩
 ·intro k hk
  by_cases A9:k < 35
  ·obtain⟨hv,hF⟩:=hV k A9
   have c1':(k:Int) < 35:=by omega
   have v4:IntKind.i64.wrap ((k:Int)+1)=((k+1:Nat):Int):=by rw[aD (by omega) (by omega)];omega
   cases k with
   | zero=>
    simp only[jM,jB]
    simp only[eq_self,decide_true,Int.cast_ofNat_Int,true_and,List.nil_append,List.cons_append,List.map_cons,List.map_nil,cG,↓mU,cB,aW,eK,b6,cC,dB,cK,↓fZ,↓gL,↓CE,↓eJ,↓cL,Opd.ev,Sx.get,put,bQ,fF,aU,Int.cast_ofNat_Int,seval]
    refine aI [(0,0),(1,0),(2,0)] hF ?_
    simp only[r0,r1,r2,rb,hv,and_self,false_imp_iff,eq_self,Int.cast_ofNat_Int,true_and,implies_true,List.getElem?_cons_zero,List.getElem?_cons_succ,List.length_cons,List.length_nil,List.nil_append,List.drop_zero,List.map_cons,List.map_nil,Nat.zero_add,Nat.add_zero,cG,cB,aW,b6,Bool.false_or,↓nK,↓AH,↓Aw,↓i6,↓uE,Opd.ev,Sx.get,put,bQ,fF,aU,rd,bC,SV.cells?,dT,bB,SV.ren,SV.renL,cQ,bZ,qM,Kind.isOwn,aC,Option.getD_some,Nat.sub_zero,not_false_eq_true,Nat.le_refl,aA,Nat.mul_one,Int.cast_ofNat_Int,b9,aK,aM,aG,fX,Option.some.injEq,exists_eq_left',List.forall_mem_cons,List.not_mem_nil,ne_eq,List.take_length,List.drop_zero,seval]
    have f9:=X6 (tS:=aO) (V 0) (by omega) (some 16)
    rw[hv] at f9
    refine aI [(3,0),(4,0)] f9 ?_
    simp only[and_self,iA,wrap64,false_imp_iff,eq_self,Int.cast_ofNat_Int,true_and,imp_self,implies_true,List.getElem?_cons_zero,List.getElem?_cons_succ,List.length_cons,List.length_nil,List.nil_append,List.cons_append,List.drop_zero,Nat.zero_add,Nat.add_zero,dN,cG,cB,aW,b6,Bool.false_or,Bool.true_or,mX,↓fZ,↓gL,↓eJ,↓cL,Opd.ev,Sx.get,put,bQ,fF,aU,rd,rm,dT,bB,SV.ren,SV.renL,cQ,bZ,qM,Kind.isOwn,aC,List.getElem?_nil,Option.getD_none,Option.getD_some,Nat.sub_zero,not_false_eq_true,Nat.le_refl,aA,Int.cast_ofNat_Int,kV,aK,aM,aG,fX,Option.some.injEq,exists_eq_left',List.forall_mem_cons,List.not_mem_nil,ne_eq,forall_const,List.drop_zero,seval]
    exact⟨1,⟨[(0,0),(1,0),(2,0),(3,0),(5,0)],by simp only[jM,jB,← m7 V 0,show jZ V 0=[] from rfl,r0,r1,r2,dS,aK,aM,aG,bB,b7,rd,SV.ren,SV.renL,Option.getD_some,List.getElem?_cons_zero,List.getElem?_cons_succ,List.length_cons,List.length_nil,Nat.zero_add,Nat.add_zero,Nat.reduceAdd,Nat.reduceSub,Nat.reduceEqDiff,Nat.reduceLT,Nat.reduceLeDiff,↓reduceIte,Kind.isOwn,List.take_succ_cons,List.take_zero,List.nil_append,List.cons_append,and_self,true_and,exists_eq_left',Option.some.injEq,List.drop_zero,List.take_length,Nat.le_refl,ne_eq,not_false_eq_true,implies_true,List.not_mem_nil,false_imp_iff,Bool.false_or,Bool.true_or,forall_const,reduceCtorEq,List.mem_cons,or_false,forall_eq_or_imp,forall_eq,Nat.succ_ne_self,aC],by simp[rb,dI,eX,bB,SV.ren,SV.renL,Option.getD_some,List.length_cons,List.length_nil,Nat.zero_add,Nat.add_zero,and_self,seval]⟩,by omega,by omega⟩
   | succ k=>
    simp only[jM,jB]
    have hlk:=iQ (f:=V) (n:=k+1) (fun j hj=>(hV j (by omega)).1)
    simp only[c1',eq_self,decide_true,true_and,List.nil_append,List.cons_append,List.map_cons,List.map_nil,cG,↓mU,cB,aW,eK,b6,cC,dB,cK,↓fZ,↓gL,↓CE,↓eJ,↓cL,Opd.ev,Sx.get,put,bQ,fF,aU,seval]
    refine aI [(0,0),(1,0),(2,0)] hF ?_
    simp only[r0,r1,r2,rb,hv,and_self,false_imp_iff,eq_self,Int.cast_ofNat_Int,true_and,implies_true,List.getElem?_cons_zero,List.getElem?_cons_succ,List.length_cons,List.length_nil,List.nil_append,List.drop_zero,List.map_cons,List.map_nil,Nat.zero_add,Nat.add_zero,cG,cB,aW,b6,Bool.false_or,↓nK,↓AH,↓Aw,↓i6,↓uE,Opd.ev,Sx.get,put,bQ,fF,aU,rd,bC,SV.cells?,dT,bB,SV.ren,SV.renL,cQ,bZ,qM,Kind.isOwn,aC,Option.getD_some,Nat.sub_zero,not_false_eq_true,Nat.le_refl,aA,Nat.mul_one,Int.cast_ofNat_Int,b9,aK,aM,aG,fX,Option.some.injEq,exists_eq_left',List.forall_mem_cons,List.not_mem_nil,ne_eq,List.take_length,List.drop_zero,seval]
    have f9:=X7 (tS:=aO) (jZ V (k+1)) (V (k+1)) (by omega) (some 16)
    rw[hv,hlk,m7] at f9
    refine aI [(3,0),(4,0),(5,0)] f9 ?_
    simp only[v4,and_self,iA,false_imp_iff,eq_self,Int.cast_ofNat_Int,true_and,imp_self,implies_true,List.getElem?_cons_zero,List.getElem?_cons_succ,List.length_cons,List.length_nil,List.nil_append,List.cons_append,List.drop_zero,Nat.zero_add,Nat.add_zero,dN,cG,cB,aW,b6,Bool.false_or,Bool.true_or,mX,↓fZ,↓gL,↓eJ,↓cL,Opd.ev,Sx.get,put,bQ,fF,aU,rd,rm,dT,bB,SV.ren,SV.renL,cQ,bZ,qM,Kind.isOwn,aC,List.getElem?_nil,Option.getD_none,Option.getD_some,not_false_eq_true,Nat.le_refl,aA,Int.cast_ofNat_Int,kV,aK,aM,aG,fX,Option.some.injEq,exists_eq_left',List.forall_mem_cons,List.not_mem_nil,ne_eq,forall_const,List.drop_zero,seval]
    exact⟨k+1+1,⟨[(0,0),(1,0),(2,0),(3,0),(6,0)],by simp only[jM,jB,r0,r1,r2,dS,aK,aM,aG,bB,b7,rd,SV.ren,SV.renL,Option.getD_some,List.getElem?_cons_zero,List.getElem?_cons_succ,List.length_cons,List.length_nil,Nat.zero_add,Nat.add_zero,Kind.isOwn,List.take_succ_cons,List.take_zero,List.nil_append,List.cons_append,and_self,and_true,true_and,exists_eq_left',Option.some.injEq,List.drop_zero,List.take_length,Nat.le_refl,ne_eq,not_false_eq_true,implies_true,List.not_mem_nil,false_imp_iff,Bool.false_or,Bool.true_or,forall_const,List.mem_cons,or_false,forall_eq_or_imp,forall_eq,Nat.succ_ne_self,aC,seval] <;> rfl,by simp[rb,dI,eX,bB,SV.ren,SV.renL,Option.getD_some,List.length_cons,List.length_nil,Nat.zero_add,Nat.add_zero,and_self,seval]⟩,by omega,by omega⟩
  ·obtain rfl:k=35:=by omega
   simp only[jM,jB]
   simp only[nJ,eq_self,decide_false,Int.cast_ofNat_Int,true_and,List.map_cons,List.map_nil,dN,cG,↓nU,cB,aW,b6,cC,dB,i5,oC,oD,↓gL,↓i6,↓eJ,↓cL,Opd.ev,Sx.get,put,bQ,fF,aU,Int.cast_ofNat_Int,seval]
   have hl:=iQ (f:=V) (n:=35) (fun j hj=>(hV j hj).1)
   have f9:=f92 (tS:=aO) (jZ V 35) (by omega) (by omega)
   rw[hl] at f9
   refine aI [(3,0),(4,0)] f9 ?_
   simp only[and_self,false_imp_iff,eq_self,true_and,implies_true,List.getElem?_cons_zero,List.getElem?_cons_succ,List.length_cons,List.length_nil,List.nil_append,Nat.zero_add,Nat.add_zero,dN,cG,cB,aW,Bool.true_or,iW,vG,↓fZ,↓dY,Opd.ev,Sx.get,put,bQ,fF,aU,rd,rm,dX,dT,bB,SV.ren,SV.renL,cQ,bZ,qM,Kind.isOwn,aC,Option.getD_some,not_false_eq_true,aK,aM,aG,fX,Option.some.injEq,exists_eq_left',List.forall_mem_cons,List.not_mem_nil,ne_eq,forall_const,seval]
theorem AAi (seed:List UInt8) (hs:seed.length≤64):Fun Tryz.prog aO 148 [.str seed] [] 0 (.agg (aB (yW seed))) [] 0:=by
 refine dK Tryz.f148 (by kernel_rfl) (fun _=>by simp only[SV.ren,aC]) ?_
 conv in aJ _ _=>(reduce;simp only[aH,seval])
 have fj:=Xm 166 [.ptr 0 0] [.str seed] [] [] (A3 seed) (fun k hk=>⟨xG seed k,AAg seed k hk hs⟩) (fun η h0 h1 h2=>by simp[SV.renL,SV.ren,h0])
 have hc:=iQ (f:=A3 seed) (n:=35) (fun k _=>xG seed k)
 have hO:=IX seed
 unfold yW at *
 generalize jZ (A3 seed) 35=C at *
 have fo:Fun Tryz.prog aO 131 [.int .i64 5,.slc 0 0 1 1 none] [(0,⟨.view,[.str C]⟩)] 1 (.agg (aB (dE 5 [C]))) [] 1:=hOf 5 [C] (D6 (by omega))
 simp only[eq_self,List.map_cons,List.map_nil,Nat.zero_add,gV,cG,cB,aW,b6,cC,↓B6,↓AH,↓Fp,↓i6,Opd.ev,Sx.get,put,bQ,fF,aU,SV.cells?,SV.one,Az,seval]
 refine aI [(0,0),(0,0),(0,0)] fj ?_
 simp only[and_self,false_imp_iff,eq_self,true_and,and_true,imp_self,implies_true,List.getElem?_cons_zero,List.getElem?_cons_succ,List.length_cons,List.length_nil,List.nil_append,List.take_succ_cons,List.take_zero,List.drop_zero,List.take_nil,List.map_cons,List.map_nil,Nat.zero_add,Nat.add_zero,cB,aW,Bool.false_or,↓g8,↓i6,↓eG,Opd.ev,Sx.get,put,bQ,fF,aU,rd,SV.cells?,SV.one,dT,bB,SV.ren,SV.renL,cQ,bZ,qM,Kind.isOwn,Option.getD_some,not_true_eq_false,Nat.le_refl,b9,aK,aM,aG,fX,Option.some.injEq,exists_eq_left',List.forall_mem_cons,List.not_mem_nil,ne_eq,List.drop_zero,seval]
 refine aI [(2,0)] fo ?_
 simp only[hO,and_self,false_imp_iff,eq_self,implies_true,List.getElem?_cons_zero,List.length_cons,List.length_nil,List.nil_append,List.take_succ_cons,List.drop_zero,List.take_nil,List.map_cons,List.map_nil,Nat.zero_add,Nat.add_zero,dN,cG,cB,aW,Bool.false_or,iW,vG,↓mL,↓nK,↓dY,Opd.ev,Sx.get,put,bQ,fF,aU,rd,bC,SV.cells?,dX,dT,bB,SV.ren,SV.renL,cQ,bZ,qM,Kind.isOwn,aC,Option.getD_some,Nat.le_refl,aA,b9,kV,aK,aM,aG,fX,Option.some.injEq,exists_eq_left',List.not_mem_nil,ne_eq,List.drop_zero,seval]
theorem h87 (seed d:List UInt8) (hs:seed.length≤64) (hd:d.length=16):Fun Tryz.prog aO 87 [.str seed,.agg (aB d)] [] 0 (.str (pA seed d)) [] 0:=by
 refine dK Tryz.f87 (by kernel_rfl) (fun _=>rfl) ?_
 conv in aJ _ _=>(reduce;simp only[aH,seval])
 have fj:=Xm 128 [.ptr 0 0,.ptr 1 0] [.slc 2 0 1 35 (some 35)] [.str seed] (d9 (mO d)) (GP seed d) (fun k hk=>⟨qX seed d k,AAh seed d k hk hs⟩)
  (fun η h0 h1 h2=>by simp[SV.renL,SV.ren,h0,h1,h2,kG])
 have dl:=xD d
 simp only[hd,eq_self,true_and,List.drop_zero,List.map_cons,List.map_nil,Nat.zero_add,gV,cG,cB,aW,b6,cC,↓B6,↓mL,↓fZ,↓i6,Opd.ev,Sx.get,put,bQ,fF,aU,rd,SV.cells?,SV.one,Nat.le_refl,aA,kV,Az,seval]
 refine aI [] (f77 d hd) ?_
 simp only[and_self,eq_self,true_and,imp_self,List.length_cons,List.length_nil,List.nil_append,List.cons_append,List.map_cons,List.map_nil,Nat.zero_add,Nat.add_zero,cG,cB,aW,b6,cC,↓nK,↓AH,↓Fp,↓i6,Opd.ev,Sx.get,put,bQ,fF,aU,rd,bC,SV.cells?,SV.one,dT,bB,SV.ren,SV.renL,cQ,bZ,qM,Kind.isOwn,aC,kG,List.getElem?_nil,Option.getD_none,Nat.sub_zero,Nat.le_refl,b9,aK,aM,aG,fX,seval]
 refine aI [(3,0),(0,0),(2,0)] fj ?_
 simp only[and_self,false_imp_iff,eq_self,true_and,implies_true,List.getElem?_cons_zero,List.getElem?_cons_succ,List.length_cons,List.length_nil,List.nil_append,List.take_succ_cons,List.drop_zero,List.take_nil,Nat.zero_add,Nat.add_zero,dN,cG,cB,aW,Bool.false_or,iW,vG,↓fZ,↓dY,Opd.ev,Sx.get,put,bQ,fF,aU,rd,dX,dT,bB,SV.ren,SV.renL,cQ,bZ,qM,Kind.isOwn,kG,gC,Option.getD_some,not_false_eq_true,Nat.le_refl,qD,aK,aM,aG,fX,Option.some.injEq,exists_eq_left',List.forall_mem_cons,List.not_mem_nil,ne_eq,List.drop_zero,seval]
 rfl
def dG (M:List UInt8) (s t:Int) (R S:List UInt8):List SV:=.str M :: .int .i64 s :: .int .i64 t :: (aB R++[.str S])
def nT (M:List UInt8) (s t:Int) (S:List UInt8):Bool:=decide (1≤M.length∧M.length≤12∧S.length≤1048576∧0≤s∧s≤4294967296∧0≤t∧t≤1099511627776)
theorem zU {R:List UInt8} {l:List SV} (h:R.length=16):(aB R++l)[16]?=l[0]?:=by
 rw[List.getElem?_append_right (by rw[aA];omega),aA,h]
theorem LQ (M:List UInt8) (s t:Int) (R S:List UInt8) (hR:R.length=16):Fun Tryz.prog tS 17 [.agg (dG M s t R S)] [] 0 (.bool (nT M s t S)) [] 0:=by
 refine dK Tryz.f17 (by kernel_rfl) (fun _=>rfl) ?_
 conv in aJ _ _=>(reduce;simp only[aH,seval])
 have g:=zU (l:=[.str S]) hR
 unfold dG
 simp only[g,NV,↓NP,undef,seval]
 simp only[nT,decide_eq_true_eq,decide_eq_false_iff_not,eq_comm (a:=false),decide_eq_decide]
 omega
def jH (h:Int):Int:=if 0≤h∧h≤6 then 2 ^ h.toNat else 0
theorem G6 {h:Int} (h0:0≤h) (h6:h≤6):IntKind.i64.wrap (1 * 2 ^ (min h.toNat IntKind.i64.bits))=2 ^ h.toNat:=by
 obtain⟨k,rfl⟩:=Int.eq_ofNat_of_zero_le h0
 have:k=0∨k=1∨k=2∨k=3∨k=4∨k=5∨k=6:=by omega
 rcases this with rfl|rfl|rfl|rfl|rfl|rfl|rfl <;> rfl
theorem A9 (h:Int):Fun Tryz.prog tS 35 [.int .i64 h] [] 0 (.int .i64 (jH h)) [] 0:=by
 refine dK Tryz.f35 (by kernel_rfl) (fun _=>rfl) ?_
 conv in aJ _ _=>(reduce;simp only[aH,seval])
 unfold jH
 by_cases h0:h < 0
 ·have c:¬ (0≤h∧h≤6):=by omega
  simp only[h0,c,NV,↓NP,undef,seval]
 by_cases h6:h > 6
 ·have c:¬ (0≤h∧h≤6):=by omega
  simp only[h0,h6,c,NV,↓NP,seval]
 have c:0≤h∧h≤6:=by omega
 have e:=G6 c.1 c.2
 simp only[h0,h6,c,e,NV,↓NP,seval]
 trace_state
theorem S6 (h:Int):0≤jH h∧jH h≤64:=by
 unfold jH
 by_cases c:0≤h∧h≤6
 ·rw[if_pos c]
  obtain⟨k,rfl⟩:=Int.eq_ofNat_of_zero_le c.1
  have:k=0∨k=1∨k=2∨k=3∨k=4∨k=5∨k=6:=by omega
  rcases this with rfl|rfl|rfl|rfl|rfl|rfl|rfl <;> decide
 ·rw[if_neg c];decide
theorem LS (h:Int):IntKind.i64.wrap (jH h * jH h)=jH h * jH h:=by
 obtain⟨h0,h1⟩:=S6 h
 have h2:0≤jH h * jH h:=Int.mul_nonneg h0 h0
 have h3:jH h * jH h≤64 * 64:=Int.mul_le_mul h1 h1 h0 (by decide)
 exact aD (by omega) (by omega)
theorem S7 (h:Int):Fun Tryz.prog tS 15 [.int .i64 h] [] 0 (.int .i64 (jH h * jH h)) [] 0:=by
 refine dK Tryz.f15 (by kernel_rfl) (fun _=>rfl) ?_
 conv in aJ _ _=>(reduce;simp only[aH,UInt8.reduceOfNat,Int.reduceOfNat,Int.reduceNegSucc])
 have e:=LS h
 simp (maxSteps:=1000000) only [NV,↓NP,reduceCtorEq,↓reduceIte]
 refine aE (A9 h) ?_
 simp (maxSteps:=1000000) only [NV,↓NP,reduceCtorEq,Nat.reduceEqDiff,↓reduceIte]
 refine aE (A9 h) ?_
 simp (maxSteps:=1000000) only [e,NV,↓NP,Nat.reduceEqDiff,↓reduceIte]
def BS (seed:List UInt8):List UInt8:=BM seed (bU [117,112,112,101,114])
def uQ (seed:List UInt8) (s:Int):List UInt8:=yV seed [108,111,119,101,114] (aP s)
theorem CV (seed:List UInt8):(BS seed).length=32:=II _ _
theorem LT (seed:List UInt8) (s:Int):(uQ seed s).length=32:=xF _ _ _
theorem AAu (key label:List UInt8) (hk:key.length≤64) (h1:label.length≤2 ^ 20):Fun Tryz.prog aO 83 [.str key,.str label,.val (.slice none 0 0)] [] 0 (.str (BM key (bU label))) [] 0:=by
 refine dK Tryz.f83 (by kernel_rfl) (fun _=>rfl) ?_
 conv in aJ _ _=>(reduce;simp only[aH,UInt8.reduceOfNat,Int.reduceOfNat,Int.reduceNegSucc])
 have l1:=iC h1
 have fm:=Jj key (bU label) hk (by omega)
 simp (maxSteps:=1000000) only [NV,↓NP,reduceCtorEq,Nat.reduceEqDiff,Nat.reduceAdd,↓reduceIte]
 refine aI [] (f33 label (by omega)) ?_
 simp (maxSteps:=1000000) only [NV,NJ,↓NP,reduceCtorEq,Nat.reduceEqDiff,↓reduceIte]
 rw[aL]
 refine a8 (fun _ _ _ _ _ h=>h) (aN _ _) 1 ?_
 simp (maxSteps:=1000000) only [NV,↓NP,reduceCtorEq,Nat.reduceEqDiff,Int.reduceLT,↓reduceIte]
 refine aE fm ?_
 simp (maxSteps:=1000000) only [NV,↓NP,Nat.reduceEqDiff,↓reduceIte]
theorem h37 (seed:List UInt8) (hk:seed.length≤64):Fun Tryz.prog aO 37 [.str seed] [] 0 (.str (BS seed)) [] 0:=by
 refine dK Tryz.f37 (by kernel_rfl) (fun _=>rfl) ?_
 conv in aJ _ _=>(reduce;simp only[aH,UInt8.reduceOfNat,Int.reduceOfNat,Int.reduceNegSucc])
 unfold BS
 simp (maxSteps:=1000000) only [NV,↓NP,reduceCtorEq,↓reduceIte]
 refine aI [] (AAu seed [117,112,112,101,114] hk (by decide)) ?_
 simp (maxSteps:=1000000) only [NV,NJ,↓NP,Nat.reduceEqDiff,↓reduceIte]
theorem h44 (seed:List UInt8) (s:Int) (hk:seed.length≤64):Fun Tryz.prog aO 44 [.str seed,.int .i64 s] [] 0 (.str (uQ seed s)) [] 0:=by
 refine dK Tryz.f44 (by kernel_rfl) (fun _=>rfl) ?_
 conv in aJ _ _=>(reduce;simp only[aH,UInt8.reduceOfNat,Int.reduceOfNat,Int.reduceNegSucc])
 have e1:=aS s
 have fd:=h83 seed [108,111,119,101,114] (aP s) hk (by decide) (by omega)
 unfold uQ
 simp (maxSteps:=1000000) only [NV,↓NP,reduceCtorEq,Nat.reduceEqDiff,Nat.reduceAdd,↓reduceIte]
 refine aI [] (f34 s) ?_
 simp (maxSteps:=1000000) only [NV,NJ,↓NP,Nat.reduceEqDiff,Nat.reduceAdd,↓reduceIte]
 refine aI [(1,0)] fd ?_
 simp (maxSteps:=1000000) only [NV,NJ,↓NP,Nat.reduceEqDiff,Nat.reduceSub,Nat.reduceLT,↓reduceIte]
def gZ (M:List UInt8) (s t:Int) (R:List UInt8):List UInt8:=bU [104,101,97,100]++bU M++i8 [s,t]++R
def pE (M:List UInt8) (s t:Int) (R S:List UInt8):List UInt8:=bU M++i8 [s,t]++R++bU S
theorem iD {R:List UInt8} {l:List SV} (h:R.length=16):List.take 16 (aB R++l)=aB R:=List.take_left' (by rw[aA,h])
theorem oL (s t:Int):(i8 [s,t]).length≤27:=by
 have e1:=aS 2
 have e2:=aS s
 have e3:=aS t
 simp[i8,vJ];omega
theorem T9 (s t:Int):Fun Tryz.prog tS 51 [.slc 0 0 1 2 none] [(0,⟨.view,[.int .i64 s,.int .i64 t]⟩)] 1 (.slc 1 0 1 (i8 [s,t]).length none) [(1,⟨.own 5,aB (i8 [s,t])⟩)] 2:=f31 [s,t] (by show 2≤1000;decide) none
theorem Vr (M:List UInt8) (s t:Int) (R S:List UInt8) (hM:M.length≤2 ^ 20) (hR:R.length=16):Fun Tryz.prog tS 19 [.agg (dG M s t R S)] [] 0 (.str (gZ M s t R)) [] 0:=by
 refine dK Tryz.f19 (by kernel_rfl) (fun _=>rfl) ?_
 conv in aJ _ _=>(reduce;simp only[aH,UInt8.reduceOfNat,Int.reduceOfNat,Int.reduceNegSucc])
 have l1:=iC (s:=[104,101,97,100]) (by decide)
 have l2:=iC hM
 have l3:=oL s t
 have tl:=iD (l:=[.str S]) hR
 unfold dG gZ
 simp (maxSteps:=1000000) only [NV,↓NP,reduceCtorEq,Nat.reduceEqDiff,↓reduceIte]
 refine aI [] (f33 [104,101,97,100] (by decide)) ?_
 simp (maxSteps:=1000000) only [NV,NJ,↓NP,Nat.reduceEqDiff,Nat.reduceAdd,Nat.reduceLeDiff,↓reduceIte]
 refine aI [] (f33 M (by omega)) ?_
 simp (maxSteps:=1000000) only [NV,NJ,↓NP,Nat.reduceEqDiff,Nat.reduceAdd,Nat.reduceLeDiff,↓reduceIte]
 refine⟨by unfold cH;omega,aI [(3,0)] (T9 s t) ?_⟩
 simp (maxSteps:=1000000) only [hR,tl,NV,NJ,↓NP,Nat.reduceEqDiff,Nat.reduceAdd,Nat.reduceSub,Nat.reduceLeDiff,Nat.reduceLT,Int.reduceToNat,Int.reduceLE,↓reduceIte]
 exact⟨by unfold cH;omega,by unfold cH;omega⟩
theorem h27 (M:List UInt8) (s t:Int) (R S:List UInt8) (hM:M.length≤2 ^ 20) (hS:S.length≤2 ^ 20) (hR:R.length=16):Fun Tryz.prog tS 27 [.agg (dG M s t R S)] [] 0 (.str (pE M s t R S)) [] 0:=by
 refine dK Tryz.f27 (by kernel_rfl) (fun _=>rfl) ?_
 conv in aJ _ _=>(reduce;simp only[aH,UInt8.reduceOfNat,Int.reduceOfNat,Int.reduceNegSucc])
 have l2:=iC hM
 have l3:=oL s t
 have l4:=iC hS
 have tl:=iD (l:=[.str S]) hR
 have g:=zU (l:=[.str S]) hR
 unfold dG pE
 simp (maxSteps:=1000000) only [NV,↓NP,reduceCtorEq,Nat.reduceEqDiff,↓reduceIte]
 refine aI [] (f33 M (by omega)) ?_
 simp (maxSteps:=1000000) only [NV,NJ,↓NP,Nat.reduceEqDiff,Nat.reduceAdd,Nat.reduceLeDiff,↓reduceIte]
 refine aI [(2,0)] (T9 s t) ?_
 simp (maxSteps:=1000000) only [hR,tl,g,NV,NJ,↓NP,Nat.reduceEqDiff,Nat.reduceAdd,Nat.reduceSub,Nat.reduceLeDiff,Nat.reduceLT,Int.reduceToNat,Int.reduceLE,↓reduceIte]
 refine⟨by unfold cH;omega,by unfold cH;omega,aI [] (f33 S (by omega)) ?_⟩
 simp (maxSteps:=1000000) only [hR,NV,NJ,↓NP,Nat.reduceEqDiff,Nat.reduceAdd,Nat.reduceLeDiff,↓reduceIte]
 unfold cH;omega
def lW (B:Nat) (L u:Nat) (e:Int):List SV:=[.slc B u 1 (L - u) none,.int .i64 e]
def v9 (u:Nat) (e:Int):Nat:=if e=0 then u else 0
theorem YQ (r:List UInt8) (u:Nat) (e:Int) (hu:e=0→u≤r.length):Fun Tryz.prog tS 97 [.ptr 0 0,.int .i64 (u:Int),.int .i64 e] [(0,⟨.own 66,lW 1 r.length 0 0⟩),(1,⟨.view,aB r⟩)] 2 (.tup [])
  [(0,⟨.own 66,lW 1 r.length (v9 u e) e⟩)] 2:=by
 refine fV Tryz.f97 (by kernel_rfl) (by decide) ?_
 conv in aJ _ _=>(reduce;simp only[aH,seval])
 unfold lW v9
 by_cases he:e=0
 ·subst he
  have h1:=hu rfl
  have c1:(0:Int)≤(u:Int):=by omega
  have c2:(u:Int)≤(r.length:Int):=by omega
  simp only[c1,c2,NV,↓NP,bC,seval]
  exact⟨[(0,0),(1,0)],by simp[NF,seval]⟩
 ·have c:(e==0)=false:=by simpa using he
  simp only[he,c,NV,↓NP,bC,seval]
  exact⟨[(0,0),(1,0)],by simp[NF,seval]⟩
theorem h55 (r:List UInt8) (hr:r.length≤2 ^ 40):Fun Tryz.prog tS 55 [.ptr 0 0] [(0,⟨.own 66,lW 1 r.length 0 0⟩),(1,⟨.view,aB r⟩)] 2 (.int .i64 (cR r).1)
  [(0,⟨.own 66,lW 1 r.length (v9 (cR r).2.1 (cR r).2.2) (cR r).2.2⟩)] 2:=by
 refine fV Tryz.f55 (by kernel_rfl) (by decide) ?_
 conv in aJ _ _=>(reduce;simp only[aH,seval])
 have fg:=f59 (tS:=tS) r (by omega) none (fun c h=>by cases h)
 rcases hd:cR r with⟨x,u,e⟩
 rw[hd] at fg
 have hu:e=0→u≤r.length:=fun h=>by subst h;exact (sS hd).2.1
 simp only
 have ft:=YQ (tS:=tS) r u e hu
 unfold lW at *
 simp only[NV,↓NP,seval]
 refine aI [(1,0)] fg ?_
 unfold eC
 simp only[NV,NJ,↓NP,seval]
 refine aI [(0,0),(1,0)] ft ?_
 simp only[NV,NJ,↓NP,seval]
 exact⟨[(0,0),(1,0)],by simp[NF,seval]⟩
theorem mS {r:List UInt8} {s:List UInt8} {u:Nat} {e:Int} (h:cJ r=(s,u,e)):e=0→u≤r.length:=fun he=>by subst he;exact (G7 h).1
theorem ZN (r:List UInt8) (hr:r.length≤2 ^ 40):Fun Tryz.prog tS 59 [.ptr 0 0] [(0,⟨.own 66,lW 1 r.length 0 0⟩),(1,⟨.view,aB r⟩)] 2 (.str (cJ r).1)
  [(0,⟨.own 66,lW 1 r.length (v9 (cJ r).2.1 (cJ r).2.2) (cJ r).2.2⟩)] 2:=by
 refine fV Tryz.f59 (by kernel_rfl) (by decide) ?_
 conv in aJ _ _=>(reduce;simp only[aH,seval])
 have fg:=f60 (tS:=tS) r hr
 rcases hd:cJ r with⟨x,u,e⟩
 rw[hd] at fg
 have ft:=YQ (tS:=tS) r u e (mS hd)
 simp only
 unfold lW at *
 simp only[NV,↓NP,seval]
 refine aI [(1,0)] fg ?_
 unfold j9
 simp only[NV,NJ,↓NP,seval]
 refine aI [(0,0),(1,0)] ft ?_
 simp only[NV,NJ,↓NP,seval]
 exact⟨[(0,0),(1,0)],by simp[NF,seval]⟩
def Ab (r:List UInt8):List UInt8:=r++List.replicate (16 - r.length) 0
theorem FS {r:List UInt8} (h:r.length≤16):(Ab r).length=16:=by simp[Ab];omega
theorem Mh {r:List UInt8} (h:r.length≤16):aF (List.replicate 16 (.int .u8 0)) 0 (aB r)=aB (Ab r):=by
 unfold aF Ab
 rw[List.take_zero,List.nil_append,Nat.zero_add,aA,List.drop_replicate,← cE]
 simp[aB,SV.byte]
theorem AAy (r:List UInt8) (hr:r.length < 16):Fun Tryz.prog tS 57 [.ptr 0 0] [(0,⟨.own 66,lW 1 r.length 0 0⟩),(1,⟨.view,aB r⟩)] 2 (.agg (aB (Ab r)))
  [(0,⟨.own 66,lW 1 r.length 0 5⟩)] 2:=by
 refine fV Tryz.f57 (by kernel_rfl) (by decide) ?_
 conv in aJ _ _=>(reduce;simp only[aH,seval])
 have ft:Fun Tryz.prog tS 97 [.ptr 0 0,.int .i64 0,.int .i64 5] [(0,⟨.own 66,lW 1 r.length 0 0⟩),(1,⟨.view,aB r⟩)] 2 _ [(0,⟨.own 66,lW 1 r.length 0 5⟩)] 2:=YQ (tS:=tS) r 0 5 (fun h=>by cases h)
 have hm:min r.length 16=r.length:=Nat.min_eq_left (by omega)
 have c1:(r.length:Int) < 16:=by omega
 unfold lW at *
 have pp:=Mh (r:=r) (by omega)
 have pl:=FS (r:=r) (by omega)
 simp only[List.replicate_succ,List.replicate_zero] at pp
 simp only[hm,c1,pp,NV,↓NP,bC,seval]
 refine aI [(0,0),(1,0)] ft ?_
 simp only[pl,NV,NJ,↓NP,bC,seval]
 exact⟨[(0,0),(1,0)],by simp[NF,seval]⟩
theorem h57 (r:List UInt8) (hr:16≤r.length):Fun Tryz.prog tS 57 [.ptr 0 0] [(0,⟨.own 66,lW 1 r.length 0 0⟩),(1,⟨.view,aB r⟩)] 2 (.agg (aB (r.take 16)))
  [(0,⟨.own 66,lW 1 r.length 16 0⟩)] 2:=by
 refine fV Tryz.f57 (by kernel_rfl) (by decide) ?_
 conv in aJ _ _=>(reduce;simp only[aH,seval])
 have ft:Fun Tryz.prog tS 97 [.ptr 0 0,.int .i64 16,.int .i64 0] [(0,⟨.own 66,lW 1 r.length 0 0⟩),(1,⟨.view,aB r⟩)] 2 _ [(0,⟨.own 66,lW 1 r.length 16 0⟩)] 2:=YQ (tS:=tS) r 16 0 (fun _=>hr)
 have hm:min r.length 16=16:=Nat.min_eq_right hr
 have ht:=y5 r 16
 have uT:(r.take 16).length=16:=by simp;omega
 unfold lW at *
 simp only[hm,ht,uT,NV,↓NP,bC,seval]
 refine aI [(0,0),(1,0)] ft ?_
 simp only[uT,NV,NJ,↓NP,bC,seval]
 exact⟨[(0,0),(1,0)],by simp[NF,seval]⟩
end Go.Proofs.YtmhkkalbijbplaaGreatDoor
