/- The proof, part Vo: MrG, MrH, ChkA. -/
import Derived.Test.YtmhkkalbijbplaaGreatDoorVn
set_option linter.unusedSimpArgs false
set_option linter.unusedVariables false
set_option maxRecDepth 100000
set_option maxHeartbeats 16000000
namespace Go.Proofs.YtmhkkalbijbplaaGreatDoor
open Go Go.Sx
theorem CP (i t:Nat):j8 i t=i.testBit t:=(Nat.testBit_eq_decide_div_mod_eq).symm
theorem vN {i h:Nat} (hi:i < 2 ^ h):j8 i h=false:=by rw[CP];exact Nat.testBit_lt_two_pow hi
theorem qY {i h:Nat} (h1:2 ^ h≤i) (h2:i < 2 ^ (h+1)):j8 i h=true:=by
 rw[CP,show i=2 ^ h+(i - 2 ^ h) by omega,Nat.testBit_two_pow_add_eq,Nat.testBit_lt_two_pow (by rw[Nat.pow_succ] at h2;omega)]
 rfl
theorem qZ {i h j:Nat} (h1:2 ^ h≤i) (hj:j < h):j8 (i - 2 ^ h) j=j8 i j:=by
 rw[CP,CP,show i.testBit j=(2 ^ h+(i - 2 ^ h)).testBit j by rw[show 2 ^ h+(i - 2 ^ h)=i by omega],Nat.testBit_two_pow_add_gt hj]
theorem fS {i i':Nat} {d X X':List UInt8}:∀ h,(∀ j,j < h→j8 i j=j8 i' j)→(∀ j,j < h→d8 X j=d8 X' j)→fW i d X h=fW i' d X' h
 | 0,_,_=>rfl
 | h+1,hb,hp=>by
  unfold fW
  rw[hb h (by omega),hp h (by omega),fS h (fun j hj=>hb j (by omega)) (fun j hj=>hp j (by omega))]
theorem jV {X:List UInt8} {h j:Nat} (hj:j < h):d8 (X.take (16 * h)) j=d8 X j:=by
 unfold d8
 rw[List.drop_take,List.take_take,Nat.min_eq_left (by omega)]
def Mc:GS
 | [.slc 0 0 1 len none],[(0,⟨.view,cells⟩)]=>match rQ cells with
  | some m=>if len=m.length∧m.length≤2 ^ 37 then some (.agg (aB (nV m)),[],1) else none
  | none=>none
 | _,_=>none
theorem sR {m:List UInt8} {n:Nat} (hn:m.length=n) (hm:n≤2 ^ 37):Mc [.slc 0 0 1 n none] [(0,⟨.view,aB m⟩)]=some (.agg (aB (nV m)),[],1):=by
 unfold Mc
 simp only[aT]
 rw[if_pos ⟨hn.symm,by omega⟩]
theorem iJ (X:List UInt8) (a:Nat) (η:Nat→Nat × Nat):SV.renL η (aB (X.take a))=List.take (aB (X.take a)).length (List.drop 0 (aB X)):=by
 rw[aC,aA,List.drop_zero,List.length_take]
 simp only[aB,List.map_take]
 rcases Nat.le_total a X.length with h|h
 ·rw[Nat.min_eq_left h]
 ·rw[Nat.min_eq_right h,List.take_of_length_le (by simpa using h),List.take_of_length_le (by simp)]
theorem T7:dQ Tryz.prog aO 116 Mc:=by
 intro a0 m0 r m1 n1 h
 unfold Mc at h
 split at h
 ·split at h
  ·rename_i m hm
   split at h
   ·rename_i hc
    cases h
    obtain⟨rfl,h2⟩:=hc
    rw[b8 hm]
    exact⟨f55 m h2 none (fun c hc=>by cases hc),by simp[dA]⟩
   ·cases h
  ·cases h
 ·cases h
theorem Pd {tag:Int} {a b:List UInt8} (ha:a.length≤2 ^ 30) (hb:b.length≤2 ^ 30):Kg tag [a,b]:=by
 refine⟨fun p hp=>?_,?_,by simp⟩
 ·simp only[List.mem_cons,List.not_mem_nil,or_false] at hp
  rcases hp with rfl|rfl <;> omega
 ·have h1:=aS (a.length:Int)
  have h2:=aS (b.length:Int)
  simp[dV,bU]
  omega
theorem Xu {d:List UInt8} (hd:d.length=16):Qs [.int .i64 1,.slc 0 0 1 1 none] [(0,⟨.view,[.str d]⟩)]=some (.slc 1 0 1 19 none,[(1,⟨.own 5,aB (dV 1 [d])⟩)],2):=by
 have h1:Kg 1 [d]:=D6 (by omega)
 unfold Qs
 simp only[xA,jO]
 rw[if_pos ⟨rfl,h1⟩,xH hd]
theorem By {a b:List UInt8} (ha:a.length=16) (hb:b.length=16):Qs [.int .i64 2,.slc 0 0 1 2 none] [(0,⟨.view,[.str a,.str b]⟩)]=some (.slc 1 0 1 37 none,[(1,⟨.own 5,aB (dV 2 [a,b])⟩)],2):=by
 have h1:Kg 2 [a,b]:=Pd (by omega) (by omega)
 unfold Qs
 simp only[xA,jO]
 rw[if_pos ⟨rfl,h1⟩,mC ha hb]
def pC:List (FuncId × GS):=[(116,Mc),(117,Qs),(47,vV)]
theorem Pe:∀ x∈pC,dQ Tryz.prog aO x.1 x.2:=by
 intro x hx
 simp only[pC,List.mem_cons,List.not_mem_nil,or_false] at hx
 rcases hx with rfl|rfl|rfl
 ·exact T7
 ·exact Oh
 ·exact xC
theorem Xv:∀ f a m n K,gT ⟨[(78,yX)],[]⟩ f a m n K→aY Tryz.prog aO f a m n K:=cN (GT f103)
def Df:bG:=iB 142 (aY Tryz.prog aO) (dR pC (gT ⟨[(78,yX)],[]⟩))
theorem xI:∀ f a m n K,Df f a m n K→aY Tryz.prog aO f a m n K:=eZ (bA Pe Xv)
def LC (h:Nat):Prop:=∀ (i:Nat) (d X:List UInt8),i < 2 ^ h→d.length=16→X.length=16 * h →
 Fun Tryz.prog aO 142 [.int .i64 (P2 h),.int .i64 (i:Int),.agg (aB d),.slc 0 0 16 h none] [(0,⟨.view,aB X⟩)] 1
  (.tup [.slc 1 0 1 (h+1) none,.bool true]) [(1,⟨.own 56,pB 3 2 h⟩),(2,⟨.own 5,aB (fW i d X h)⟩)] (3+h)
theorem AAl (d:List UInt8) (hd:d.length=16) :
  Fun Tryz.prog aO 142 [.int .i64 1,.int .i64 0,.agg (aB d),.val (.slice none 0 0)] [] 0
   (.tup [.slc 0 0 1 1 none,.bool true]) [(0,⟨.own 56,[.slc 1 0 1 19 none]⟩),(1,⟨.own 5,aB (dV 1 [d])⟩)] 2:=by
 refine aR none Df xI Bd (Nat.le_of_ble_eq_true rfl) (by decide) ?_
 conv in aJ _ _=>(reduce;simp only[aH,UInt8.reduceOfNat,Int.reduceOfNat,Int.reduceNegSucc])
 rw[aQ]
 have hl:(aB d).length=16:=by rw[aA,hd]
 have td:=cI hd
 have gt:=fE hd
 have gi:=Xu hd
 simp (maxSteps:=1000000) only [Df,pC,hl,td,↓gt,↓gi,Int.reduceGE,reduceCtorEq,Nat.reduceEqDiff,Nat.reduceAdd,Nat.reduceSub,Nat.reduceLT,Int.reduceLT,↓reduceIte,aF,BC,↓PC]
 exact⟨[(3,0),(2,0)],by simp[Nat.reduceAdd,Nat.reduceLeDiff,↓reduceIte,BC]⟩
theorem AAm:LC 0:=by
 intro i d X hi hd hX
 obtain rfl:i=0:=by simpa using hi
 obtain rfl:X=[]:=List.length_eq_zero_iff.1 hX
 show Fun Tryz.prog aO 142 [.int .i64 1,.int .i64 0,.agg (aB d),.slc 0 0 16 0 none] [(0,⟨.view,[]⟩)] 1
  (.tup [.slc 1 0 1 1 none,.bool true]) [(1,⟨.own 56,[.slc 2 0 1 19 none]⟩),(2,⟨.own 5,aB (dV 1 [d])⟩)] 3
 refine aR none Df xI Bd (Nat.le_of_ble_eq_true rfl) (by decide) ?_
 conv in aJ _ _=>(reduce;simp only[aH,UInt8.reduceOfNat,Int.reduceOfNat,Int.reduceNegSucc])
 rw[aQ]
 have hl:(aB d).length=16:=by rw[aA,hd]
 have td:=cI hd
 have gt:=fE hd
 have gi:=Xu hd
 simp (maxSteps:=1000000) only [Df,pC,hl,td,↓gt,↓gi,Int.reduceGE,reduceCtorEq,Nat.reduceEqDiff,Nat.reduceAdd,Nat.reduceSub,Nat.reduceLT,Int.reduceLT,↓reduceIte,aF,BC,↓PC]
 exact⟨[(0,0),(4,0),(3,0)],by simp[Nat.reduceAdd,Nat.reduceLT,Nat.reduceLeDiff,↓reduceIte,BC]⟩
theorem Xw (IH:LC 0):LC 1:=by
 intro i d X hi hd hX
 show Fun Tryz.prog aO 142 [.int .i64 2,.int .i64 (i:Int),.agg (aB d),.slc 0 0 16 1 none] [(0,⟨.view,aB X⟩)] 1
  (.tup [.slc 1 0 1 2 none,.bool true]) [(1,⟨.own 56,pB 3 2 1⟩),(2,⟨.own 5,aB (fW i d X 1)⟩)] 4
 have hi:i < 2:=hi
 have hX:X.length=16:=hX
 refine aR none Df xI Bd (Nat.le_of_ble_eq_true rfl) (by decide) ?_
 conv in aJ _ _=>(reduce;simp only[aH,UInt8.reduceOfNat,Int.reduceOfNat,Int.reduceNegSucc])
 rw[aQ]
 have hl:(aB d).length=16:=by rw[aA,hd]
 have td:=cI hd
 have lX:(aB X).length=16:=by rw[aA,hX]
 have pl:(d8 X 0).length=16:=by simp[d8,hX]
 have lP:(aB (d8 X 0)).length=16:=by rw[aA,pl]
 have tP:List.take 16 (aB X)=aB (d8 X 0):=by simp[d8,aB,List.map_take]
 have ttP:=cI pl
 have gs:yX [.int .i64 2]=some (.int .i64 1):=rfl
 have c1:¬ (i:Int) < 0:=by omega
 have c2:¬ (i:Int) ≥ 2:=by omega
 have gtP:=fE pl
 have hin:fW i d X 1=if j8 i 0=true then dV 2 [d8 X 0,nV (fW i d X 0)] else dV 2 [nV (fW i d X 0),d8 X 0]:=rfl
 have il:(fW i d X 0).length=19:=pU (h:=1) hd hX 0 (by decide)
 have sl:=kX (fW i d X 0)
 have gsh:=sR il (by omega)
 have tI:List.take 19 (aB (fW i d X 0))=aB (fW i d X 0):=List.take_of_length_le (by rw[aA,il];omega)
 have lI:(aB (fW i d X 0)).length=19:=by rw[aA,il]
 have gtS:=fE sl
 have gi1:=By sl pl
 have gi2:=By pl sl
 have lS:(aB (nV (fW i d X 0))).length=16:=by rw[aA,sl]
 have ttS:=cI sl
 have xl:(X.take 0).length=16 * 0:=by rw[List.length_take,hX];omega
 by_cases hb:i < 1
 ·have c3:(i:Int) < 1:=by omega
  have F:=IH i d (X.take 0) hb hd xl
  rw[fS (i':=i) (X':=X) 0 (fun _ _=>rfl) (fun j hj=>jV (h:=0) hj)] at F
  have hbit:j8 i 0=false:=vN (h:=0) hb
  rw[hbit] at hin
  simp only[Bool.false_eq_true,if_false] at hin
  simp (maxSteps:=1000000) only [Df,pC,gs,c1,c2,c3,hl,td,lX,tP,lP,Int.reduceBEq,reduceCtorEq,Nat.reduceEqDiff,Nat.reduceAdd,Nat.reduceMul,Nat.reduceLT,Int.reduceToNat,Int.reduceLT,Int.reduceLE,Int.reduceSub,Int.reduceNeg,↓reduceIte,bC,aF,BC,↓PC]
  refine⟨[(0,0)],_,_,_,_,_,F,?_,⟨⟨_,rfl,?_,?_⟩,trivial⟩,⟨by simp,trivial⟩,⟨by decide,trivial⟩,by simp,⟨fun _=>rfl,fun _=>rfl,trivial⟩,?_⟩
  ·simp only[SV.renL,SV.ren,aC,bB,List.getElem?_cons_zero,Option.getD_some] <;> rfl
  ·simp only[aA,xl,hX,bB,List.getElem?_cons_zero,Option.getD_some];omega
  ·exact iJ _ _ _
  simp (maxSteps:=1000000) only [lP,ttP,↓gsh,↓gtS,↓gtP,↓gi1,tI,lI,pB,List.range,List.range.loop,gF,Nat.reduceAdd,reduceCtorEq,Nat.reduceEqDiff,Nat.reduceAdd,Nat.reduceSub,Nat.reduceMul,Nat.reduceLeDiff,Nat.reduceLT,Int.reduceToNat,Int.reduceLT,Int.reduceLE,Int.reduceSub,Int.reduceNeg,↓reduceIte,oZ,aF,BC,↓PC]
  exact⟨by omega,by omega,[(0,0),(8,0),(6,0),(4,0)],by simp[hin,Nat.reduceAdd,Nat.reduceAdd,Nat.reduceEqDiff,Nat.reduceLT,Nat.reduceLeDiff,↓reduceIte,BC]⟩
 ·have c3:¬ (i:Int) < 1:=by omega
  have F:=IH (i - 1) d (X.take 0) (show i - 1 < 1 by omega) hd xl
  rw[fS (i':=i) (X':=X) 0 (fun j hj=>qZ (h:=0) (by omega) hj) (fun j hj=>jV (h:=0) hj)] at F
  have w1:IntKind.i64.wrap ((i:Int) - 1)=((i - 1:Nat):Int):=by rw[aD (by omega) (by omega)];omega
  have hbit:j8 i 0=true:=qY (h:=0) (by omega) hi
  rw[hbit] at hin
  simp only[if_true] at hin
  simp (maxSteps:=1000000) only [Df,pC,gs,c1,c2,c3,w1,hl,td,lX,tP,lP,Int.reduceBEq,reduceCtorEq,Nat.reduceEqDiff,Nat.reduceAdd,Nat.reduceMul,Nat.reduceLT,Int.reduceToNat,Int.reduceLT,Int.reduceLE,Int.reduceSub,Int.reduceNeg,↓reduceIte,bC,aF,BC,↓PC]
  refine⟨[(0,0)],_,_,_,_,_,F,?_,⟨⟨_,rfl,?_,?_⟩,trivial⟩,⟨by simp,trivial⟩,⟨by decide,trivial⟩,by simp,⟨fun _=>rfl,fun _=>rfl,trivial⟩,?_⟩
  ·simp only[SV.renL,SV.ren,aC,bB,List.getElem?_cons_zero,Option.getD_some] <;> rfl
  ·simp only[aA,xl,hX,bB,List.getElem?_cons_zero,Option.getD_some];omega
  ·exact iJ _ _ _
  simp (maxSteps:=1000000) only [lP,ttP,↓gsh,↓gtS,↓gtP,↓gi2,tI,lI,pB,List.range,List.range.loop,gF,Nat.reduceAdd,reduceCtorEq,Nat.reduceEqDiff,Nat.reduceAdd,Nat.reduceSub,Nat.reduceMul,Nat.reduceLeDiff,Nat.reduceLT,Int.reduceToNat,Int.reduceLT,Int.reduceLE,Int.reduceSub,Int.reduceNeg,↓reduceIte,oZ,aF,BC,↓PC]
  exact⟨by omega,by omega,[(0,0),(8,0),(6,0),(4,0)],by simp[hin,Nat.reduceAdd,Nat.reduceAdd,Nat.reduceEqDiff,Nat.reduceLT,Nat.reduceLeDiff,↓reduceIte,BC]⟩
theorem Xx (IH:LC 1):LC 2:=by
 intro i d X hi hd hX
 show Fun Tryz.prog aO 142 [.int .i64 4,.int .i64 (i:Int),.agg (aB d),.slc 0 0 16 2 none] [(0,⟨.view,aB X⟩)] 1
  (.tup [.slc 1 0 1 3 none,.bool true]) [(1,⟨.own 56,pB 3 2 2⟩),(2,⟨.own 5,aB (fW i d X 2)⟩)] 5
 have hi:i < 4:=hi
 have hX:X.length=32:=hX
 refine aR none Df xI Bd (Nat.le_of_ble_eq_true rfl) (by decide) ?_
 conv in aJ _ _=>(reduce;simp only[aH,UInt8.reduceOfNat,Int.reduceOfNat,Int.reduceNegSucc])
 rw[aQ]
 have hl:(aB d).length=16:=by rw[aA,hd]
 have td:=cI hd
 have lX:(aB X).length=32:=by rw[aA,hX]
 have pl:(d8 X 1).length=16:=by simp[d8,hX]
 have lP:(aB (d8 X 1)).length=16:=by rw[aA,pl]
 have tP:List.take 16 (List.drop 16 (aB X))=aB (d8 X 1):=by simp[d8,aB,List.map_take,List.map_drop]
 have ttP:=cI pl
 have gs:yX [.int .i64 4]=some (.int .i64 2):=rfl
 have c1:¬ (i:Int) < 0:=by omega
 have c2:¬ (i:Int) ≥ 4:=by omega
 have gtP:=fE pl
 have hin:fW i d X 2=if j8 i 1=true then dV 2 [d8 X 1,nV (fW i d X 1)] else dV 2 [nV (fW i d X 1),d8 X 1]:=rfl
 have il:(fW i d X 1).length=37:=pU (h:=2) hd hX 1 (by decide)
 have sl:=kX (fW i d X 1)
 have gsh:=sR il (by omega)
 have tI:List.take 37 (aB (fW i d X 1))=aB (fW i d X 1):=List.take_of_length_le (by rw[aA,il];omega)
 have lI:(aB (fW i d X 1)).length=37:=by rw[aA,il]
 have gtS:=fE sl
 have gi1:=By sl pl
 have gi2:=By pl sl
 have lS:(aB (nV (fW i d X 1))).length=16:=by rw[aA,sl]
 have ttS:=cI sl
 have xl:(X.take 16).length=16 * 1:=by rw[List.length_take,hX];omega
 by_cases hb:i < 2
 ·have c3:(i:Int) < 2:=by omega
  have F:=IH i d (X.take 16) hb hd xl
  rw[fS (i':=i) (X':=X) 1 (fun _ _=>rfl) (fun j hj=>jV (h:=1) hj)] at F
  have hbit:j8 i 1=false:=vN (h:=1) hb
  rw[hbit] at hin
  simp only[Bool.false_eq_true,if_false] at hin
  simp (maxSteps:=1000000) only [Df,pC,gs,c1,c2,c3,hl,td,lX,tP,lP,Int.reduceBEq,reduceCtorEq,Nat.reduceEqDiff,Nat.reduceAdd,Nat.reduceMul,Nat.reduceLT,Int.reduceToNat,Int.reduceLT,Int.reduceLE,Int.reduceSub,Int.reduceNeg,↓reduceIte,bC,aF,BC,↓PC]
  refine⟨[(0,0)],_,_,_,_,_,F,?_,⟨⟨_,rfl,?_,?_⟩,trivial⟩,⟨by simp,trivial⟩,⟨by decide,trivial⟩,by simp,⟨fun _=>rfl,fun _=>rfl,trivial⟩,?_⟩
  ·simp only[SV.renL,SV.ren,aC,bB,List.getElem?_cons_zero,Option.getD_some] <;> rfl
  ·simp only[aA,xl,hX,bB,List.getElem?_cons_zero,Option.getD_some];omega
  ·exact iJ _ _ _
  simp (maxSteps:=1000000) only [lP,ttP,↓gsh,↓gtS,↓gtP,↓gi1,tI,lI,pB,List.range,List.range.loop,gF,Nat.reduceAdd,reduceCtorEq,Nat.reduceEqDiff,Nat.reduceAdd,Nat.reduceSub,Nat.reduceMul,Nat.reduceLeDiff,Nat.reduceLT,Int.reduceToNat,Int.reduceLT,Int.reduceLE,Int.reduceSub,Int.reduceNeg,↓reduceIte,oZ,aF,BC,↓PC]
  exact⟨by omega,by omega,[(0,0),(9,0),(7,0),(5,0),(4,0)],by simp[hin,Nat.reduceAdd,Nat.reduceAdd,Nat.reduceEqDiff,Nat.reduceLT,Nat.reduceLeDiff,↓reduceIte,BC]⟩
 ·have c3:¬ (i:Int) < 2:=by omega
  have F:=IH (i - 2) d (X.take 16) (show i - 2 < 2 by omega) hd xl
  rw[fS (i':=i) (X':=X) 1 (fun j hj=>qZ (h:=1) (by omega) hj) (fun j hj=>jV (h:=1) hj)] at F
  have w1:IntKind.i64.wrap ((i:Int) - 2)=((i - 2:Nat):Int):=by rw[aD (by omega) (by omega)];omega
  have hbit:j8 i 1=true:=qY (h:=1) (by omega) hi
  rw[hbit] at hin
  simp only[if_true] at hin
  simp (maxSteps:=1000000) only [Df,pC,gs,c1,c2,c3,w1,hl,td,lX,tP,lP,Int.reduceBEq,reduceCtorEq,Nat.reduceEqDiff,Nat.reduceAdd,Nat.reduceMul,Nat.reduceLT,Int.reduceToNat,Int.reduceLT,Int.reduceLE,Int.reduceSub,Int.reduceNeg,↓reduceIte,bC,aF,BC,↓PC]
  refine⟨[(0,0)],_,_,_,_,_,F,?_,⟨⟨_,rfl,?_,?_⟩,trivial⟩,⟨by simp,trivial⟩,⟨by decide,trivial⟩,by simp,⟨fun _=>rfl,fun _=>rfl,trivial⟩,?_⟩
  ·simp only[SV.renL,SV.ren,aC,bB,List.getElem?_cons_zero,Option.getD_some] <;> rfl
  ·simp only[aA,xl,hX,bB,List.getElem?_cons_zero,Option.getD_some];omega
  ·exact iJ _ _ _
  simp (maxSteps:=1000000) only [lP,ttP,↓gsh,↓gtS,↓gtP,↓gi2,tI,lI,pB,List.range,List.range.loop,gF,Nat.reduceAdd,reduceCtorEq,Nat.reduceEqDiff,Nat.reduceAdd,Nat.reduceSub,Nat.reduceMul,Nat.reduceLeDiff,Nat.reduceLT,Int.reduceToNat,Int.reduceLT,Int.reduceLE,Int.reduceSub,Int.reduceNeg,↓reduceIte,oZ,aF,BC,↓PC]
  exact⟨by omega,by omega,[(0,0),(9,0),(7,0),(5,0),(4,0)],by simp[hin,Nat.reduceAdd,Nat.reduceAdd,Nat.reduceEqDiff,Nat.reduceLT,Nat.reduceLeDiff,↓reduceIte,BC]⟩
theorem Xy (IH:LC 2):LC 3:=by
 intro i d X hi hd hX
 show Fun Tryz.prog aO 142 [.int .i64 8,.int .i64 (i:Int),.agg (aB d),.slc 0 0 16 3 none] [(0,⟨.view,aB X⟩)] 1
  (.tup [.slc 1 0 1 4 none,.bool true]) [(1,⟨.own 56,pB 3 2 3⟩),(2,⟨.own 5,aB (fW i d X 3)⟩)] 6
 have hi:i < 8:=hi
 have hX:X.length=48:=hX
 refine aR none Df xI Bd (Nat.le_of_ble_eq_true rfl) (by decide) ?_
 conv in aJ _ _=>(reduce;simp only[aH,UInt8.reduceOfNat,Int.reduceOfNat,Int.reduceNegSucc])
 rw[aQ]
 have hl:(aB d).length=16:=by rw[aA,hd]
 have td:=cI hd
 have lX:(aB X).length=48:=by rw[aA,hX]
 have pl:(d8 X 2).length=16:=by simp[d8,hX]
 have lP:(aB (d8 X 2)).length=16:=by rw[aA,pl]
 have tP:List.take 16 (List.drop 32 (aB X))=aB (d8 X 2):=by simp[d8,aB,List.map_take,List.map_drop]
 have ttP:=cI pl
 have gs:yX [.int .i64 8]=some (.int .i64 4):=rfl
 have c1:¬ (i:Int) < 0:=by omega
 have c2:¬ (i:Int) ≥ 8:=by omega
 have gtP:=fE pl
 have hin:fW i d X 3=if j8 i 2=true then dV 2 [d8 X 2,nV (fW i d X 2)] else dV 2 [nV (fW i d X 2),d8 X 2]:=rfl
 have il:(fW i d X 2).length=37:=pU (h:=3) hd hX 2 (by decide)
 have sl:=kX (fW i d X 2)
 have gsh:=sR il (by omega)
 have tI:List.take 37 (aB (fW i d X 2))=aB (fW i d X 2):=List.take_of_length_le (by rw[aA,il];omega)
 have lI:(aB (fW i d X 2)).length=37:=by rw[aA,il]
 have gtS:=fE sl
 have gi1:=By sl pl
 have gi2:=By pl sl
 have lS:(aB (nV (fW i d X 2))).length=16:=by rw[aA,sl]
 have ttS:=cI sl
 have xl:(X.take 32).length=16 * 2:=by rw[List.length_take,hX];omega
 by_cases hb:i < 4
 ·have c3:(i:Int) < 4:=by omega
  have F:=IH i d (X.take 32) hb hd xl
  rw[fS (i':=i) (X':=X) 2 (fun _ _=>rfl) (fun j hj=>jV (h:=2) hj)] at F
  have hbit:j8 i 2=false:=vN (h:=2) hb
  rw[hbit] at hin
  simp only[Bool.false_eq_true,if_false] at hin
  simp (maxSteps:=1000000) only [Df,pC,gs,c1,c2,c3,hl,td,lX,tP,lP,Int.reduceBEq,reduceCtorEq,Nat.reduceEqDiff,Nat.reduceAdd,Nat.reduceMul,Nat.reduceLT,Int.reduceToNat,Int.reduceLT,Int.reduceLE,Int.reduceSub,Int.reduceNeg,↓reduceIte,bC,aF,BC,↓PC]
  refine⟨[(0,0)],_,_,_,_,_,F,?_,⟨⟨_,rfl,?_,?_⟩,trivial⟩,⟨by simp,trivial⟩,⟨by decide,trivial⟩,by simp,⟨fun _=>rfl,fun _=>rfl,trivial⟩,?_⟩
  ·simp only[SV.renL,SV.ren,aC,bB,List.getElem?_cons_zero,Option.getD_some] <;> rfl
  ·simp only[aA,xl,hX,bB,List.getElem?_cons_zero,Option.getD_some];omega
  ·exact iJ _ _ _
  simp (maxSteps:=1000000) only [lP,ttP,↓gsh,↓gtS,↓gtP,↓gi1,tI,lI,pB,List.range,List.range.loop,gF,Nat.reduceAdd,reduceCtorEq,Nat.reduceEqDiff,Nat.reduceAdd,Nat.reduceSub,Nat.reduceMul,Nat.reduceLeDiff,Nat.reduceLT,Int.reduceToNat,Int.reduceLT,Int.reduceLE,Int.reduceSub,Int.reduceNeg,↓reduceIte,oZ,aF,BC,↓PC]
  exact⟨by omega,by omega,[(0,0),(10,0),(8,0),(5,0),(6,0),(4,0)],by simp[hin,Nat.reduceAdd,Nat.reduceAdd,Nat.reduceEqDiff,Nat.reduceLT,Nat.reduceLeDiff,↓reduceIte,BC]⟩
 ·have c3:¬ (i:Int) < 4:=by omega
  have F:=IH (i - 4) d (X.take 32) (show i - 4 < 4 by omega) hd xl
  rw[fS (i':=i) (X':=X) 2 (fun j hj=>qZ (h:=2) (by omega) hj) (fun j hj=>jV (h:=2) hj)] at F
  have w1:IntKind.i64.wrap ((i:Int) - 4)=((i - 4:Nat):Int):=by rw[aD (by omega) (by omega)];omega
  have hbit:j8 i 2=true:=qY (h:=2) (by omega) hi
  rw[hbit] at hin
  simp only[if_true] at hin
  simp (maxSteps:=1000000) only [Df,pC,gs,c1,c2,c3,w1,hl,td,lX,tP,lP,Int.reduceBEq,reduceCtorEq,Nat.reduceEqDiff,Nat.reduceAdd,Nat.reduceMul,Nat.reduceLT,Int.reduceToNat,Int.reduceLT,Int.reduceLE,Int.reduceSub,Int.reduceNeg,↓reduceIte,bC,aF,BC,↓PC]
  refine⟨[(0,0)],_,_,_,_,_,F,?_,⟨⟨_,rfl,?_,?_⟩,trivial⟩,⟨by simp,trivial⟩,⟨by decide,trivial⟩,by simp,⟨fun _=>rfl,fun _=>rfl,trivial⟩,?_⟩
  ·simp only[SV.renL,SV.ren,aC,bB,List.getElem?_cons_zero,Option.getD_some] <;> rfl
  ·simp only[aA,xl,hX,bB,List.getElem?_cons_zero,Option.getD_some];omega
  ·exact iJ _ _ _
  simp (maxSteps:=1000000) only [lP,ttP,↓gsh,↓gtS,↓gtP,↓gi2,tI,lI,pB,List.range,List.range.loop,gF,Nat.reduceAdd,reduceCtorEq,Nat.reduceEqDiff,Nat.reduceAdd,Nat.reduceSub,Nat.reduceMul,Nat.reduceLeDiff,Nat.reduceLT,Int.reduceToNat,Int.reduceLT,Int.reduceLE,Int.reduceSub,Int.reduceNeg,↓reduceIte,oZ,aF,BC,↓PC]
  exact⟨by omega,by omega,[(0,0),(10,0),(8,0),(5,0),(6,0),(4,0)],by simp[hin,Nat.reduceAdd,Nat.reduceAdd,Nat.reduceEqDiff,Nat.reduceLT,Nat.reduceLeDiff,↓reduceIte,BC]⟩
theorem Xz (IH:LC 3):LC 4:=by
 intro i d X hi hd hX
 show Fun Tryz.prog aO 142 [.int .i64 16,.int .i64 (i:Int),.agg (aB d),.slc 0 0 16 4 none] [(0,⟨.view,aB X⟩)] 1
  (.tup [.slc 1 0 1 5 none,.bool true]) [(1,⟨.own 56,pB 3 2 4⟩),(2,⟨.own 5,aB (fW i d X 4)⟩)] 7
 have hi:i < 16:=hi
 have hX:X.length=64:=hX
 refine aR none Df xI Bd (Nat.le_of_ble_eq_true rfl) (by decide) ?_
 conv in aJ _ _=>(reduce;simp only[aH,UInt8.reduceOfNat,Int.reduceOfNat,Int.reduceNegSucc])
 rw[aQ]
 have hl:(aB d).length=16:=by rw[aA,hd]
 have td:=cI hd
 have lX:(aB X).length=64:=by rw[aA,hX]
 have pl:(d8 X 3).length=16:=by simp[d8,hX]
 have lP:(aB (d8 X 3)).length=16:=by rw[aA,pl]
 have tP:List.take 16 (List.drop 48 (aB X))=aB (d8 X 3):=by simp[d8,aB,List.map_take,List.map_drop]
 have ttP:=cI pl
 have gs:yX [.int .i64 16]=some (.int .i64 8):=rfl
 have c1:¬ (i:Int) < 0:=by omega
 have c2:¬ (i:Int) ≥ 16:=by omega
 have gtP:=fE pl
 have hin:fW i d X 4=if j8 i 3=true then dV 2 [d8 X 3,nV (fW i d X 3)] else dV 2 [nV (fW i d X 3),d8 X 3]:=rfl
 have il:(fW i d X 3).length=37:=pU (h:=4) hd hX 3 (by decide)
 have sl:=kX (fW i d X 3)
 have gsh:=sR il (by omega)
 have tI:List.take 37 (aB (fW i d X 3))=aB (fW i d X 3):=List.take_of_length_le (by rw[aA,il];omega)
 have lI:(aB (fW i d X 3)).length=37:=by rw[aA,il]
 have gtS:=fE sl
 have gi1:=By sl pl
 have gi2:=By pl sl
 have lS:(aB (nV (fW i d X 3))).length=16:=by rw[aA,sl]
 have ttS:=cI sl
 have xl:(X.take 48).length=16 * 3:=by rw[List.length_take,hX];omega
 by_cases hb:i < 8
 ·have c3:(i:Int) < 8:=by omega
  have F:=IH i d (X.take 48) hb hd xl
  rw[fS (i':=i) (X':=X) 3 (fun _ _=>rfl) (fun j hj=>jV (h:=3) hj)] at F
  have hbit:j8 i 3=false:=vN (h:=3) hb
  rw[hbit] at hin
  simp only[Bool.false_eq_true,if_false] at hin
  simp (maxSteps:=1000000) only [Df,pC,gs,c1,c2,c3,hl,td,lX,tP,lP,Int.reduceBEq,reduceCtorEq,Nat.reduceEqDiff,Nat.reduceAdd,Nat.reduceMul,Nat.reduceLT,Int.reduceToNat,Int.reduceLT,Int.reduceLE,Int.reduceSub,Int.reduceNeg,↓reduceIte,bC,aF,BC,↓PC]
  refine⟨[(0,0)],_,_,_,_,_,F,?_,⟨⟨_,rfl,?_,?_⟩,trivial⟩,⟨by simp,trivial⟩,⟨by decide,trivial⟩,by simp,⟨fun _=>rfl,fun _=>rfl,trivial⟩,?_⟩
  ·simp only[SV.renL,SV.ren,aC,bB,List.getElem?_cons_zero,Option.getD_some] <;> rfl
  ·simp only[aA,xl,hX,bB,List.getElem?_cons_zero,Option.getD_some];omega
  ·exact iJ _ _ _
  simp (maxSteps:=1000000) only [lP,ttP,↓gsh,↓gtS,↓gtP,↓gi1,tI,lI,pB,List.range,List.range.loop,gF,Nat.reduceAdd,reduceCtorEq,Nat.reduceEqDiff,Nat.reduceAdd,Nat.reduceSub,Nat.reduceMul,Nat.reduceLeDiff,Nat.reduceLT,Int.reduceToNat,Int.reduceLT,Int.reduceLE,Int.reduceSub,Int.reduceNeg,↓reduceIte,oZ,aF,BC,↓PC]
  exact⟨by omega,by omega,[(0,0),(11,0),(9,0),(5,0),(6,0),(7,0),(4,0)],by simp[hin,Nat.reduceAdd,Nat.reduceAdd,Nat.reduceEqDiff,Nat.reduceLT,Nat.reduceLeDiff,↓reduceIte,BC]⟩
 ·have c3:¬ (i:Int) < 8:=by omega
  have F:=IH (i - 8) d (X.take 48) (show i - 8 < 8 by omega) hd xl
  rw[fS (i':=i) (X':=X) 3 (fun j hj=>qZ (h:=3) (by omega) hj) (fun j hj=>jV (h:=3) hj)] at F
  have w1:IntKind.i64.wrap ((i:Int) - 8)=((i - 8:Nat):Int):=by rw[aD (by omega) (by omega)];omega
  have hbit:j8 i 3=true:=qY (h:=3) (by omega) hi
  rw[hbit] at hin
  simp only[if_true] at hin
  simp (maxSteps:=1000000) only [Df,pC,gs,c1,c2,c3,w1,hl,td,lX,tP,lP,Int.reduceBEq,reduceCtorEq,Nat.reduceEqDiff,Nat.reduceAdd,Nat.reduceMul,Nat.reduceLT,Int.reduceToNat,Int.reduceLT,Int.reduceLE,Int.reduceSub,Int.reduceNeg,↓reduceIte,bC,aF,BC,↓PC]
  refine⟨[(0,0)],_,_,_,_,_,F,?_,⟨⟨_,rfl,?_,?_⟩,trivial⟩,⟨by simp,trivial⟩,⟨by decide,trivial⟩,by simp,⟨fun _=>rfl,fun _=>rfl,trivial⟩,?_⟩
  ·simp only[SV.renL,SV.ren,aC,bB,List.getElem?_cons_zero,Option.getD_some] <;> rfl
  ·simp only[aA,xl,hX,bB,List.getElem?_cons_zero,Option.getD_some];omega
  ·exact iJ _ _ _
  simp (maxSteps:=1000000) only [lP,ttP,↓gsh,↓gtS,↓gtP,↓gi2,tI,lI,pB,List.range,List.range.loop,gF,Nat.reduceAdd,reduceCtorEq,Nat.reduceEqDiff,Nat.reduceAdd,Nat.reduceSub,Nat.reduceMul,Nat.reduceLeDiff,Nat.reduceLT,Int.reduceToNat,Int.reduceLT,Int.reduceLE,Int.reduceSub,Int.reduceNeg,↓reduceIte,oZ,aF,BC,↓PC]
  exact⟨by omega,by omega,[(0,0),(11,0),(9,0),(5,0),(6,0),(7,0),(4,0)],by simp[hin,Nat.reduceAdd,Nat.reduceAdd,Nat.reduceEqDiff,Nat.reduceLT,Nat.reduceLeDiff,↓reduceIte,BC]⟩
theorem YA (IH:LC 4):LC 5:=by
 intro i d X hi hd hX
 show Fun Tryz.prog aO 142 [.int .i64 32,.int .i64 (i:Int),.agg (aB d),.slc 0 0 16 5 none] [(0,⟨.view,aB X⟩)] 1
  (.tup [.slc 1 0 1 6 none,.bool true]) [(1,⟨.own 56,pB 3 2 5⟩),(2,⟨.own 5,aB (fW i d X 5)⟩)] 8
 have hi:i < 32:=hi
 have hX:X.length=80:=hX
 refine aR none Df xI Bd (Nat.le_of_ble_eq_true rfl) (by decide) ?_
 conv in aJ _ _=>(reduce;simp only[aH,UInt8.reduceOfNat,Int.reduceOfNat,Int.reduceNegSucc])
 rw[aQ]
 have hl:(aB d).length=16:=by rw[aA,hd]
 have td:=cI hd
 have lX:(aB X).length=80:=by rw[aA,hX]
 have pl:(d8 X 4).length=16:=by simp[d8,hX]
 have lP:(aB (d8 X 4)).length=16:=by rw[aA,pl]
 have tP:List.take 16 (List.drop 64 (aB X))=aB (d8 X 4):=by simp[d8,aB,List.map_take,List.map_drop]
 have ttP:=cI pl
 have gs:yX [.int .i64 32]=some (.int .i64 16):=rfl
 have c1:¬ (i:Int) < 0:=by omega
 have c2:¬ (i:Int) ≥ 32:=by omega
 have gtP:=fE pl
 have hin:fW i d X 5=if j8 i 4=true then dV 2 [d8 X 4,nV (fW i d X 4)] else dV 2 [nV (fW i d X 4),d8 X 4]:=rfl
 have il:(fW i d X 4).length=37:=pU (h:=5) hd hX 4 (by decide)
 have sl:=kX (fW i d X 4)
 have gsh:=sR il (by omega)
 have tI:List.take 37 (aB (fW i d X 4))=aB (fW i d X 4):=List.take_of_length_le (by rw[aA,il];omega)
 have lI:(aB (fW i d X 4)).length=37:=by rw[aA,il]
 have gtS:=fE sl
 have gi1:=By sl pl
 have gi2:=By pl sl
 have lS:(aB (nV (fW i d X 4))).length=16:=by rw[aA,sl]
 have ttS:=cI sl
 have xl:(X.take 64).length=16 * 4:=by rw[List.length_take,hX];omega
 by_cases hb:i < 16
 ·have c3:(i:Int) < 16:=by omega
  have F:=IH i d (X.take 64) hb hd xl
  rw[fS (i':=i) (X':=X) 4 (fun _ _=>rfl) (fun j hj=>jV (h:=4) hj)] at F
  have hbit:j8 i 4=false:=vN (h:=4) hb
  rw[hbit] at hin
  simp only[Bool.false_eq_true,if_false] at hin
  simp (maxSteps:=1000000) only [Df,pC,gs,c1,c2,c3,hl,td,lX,tP,lP,Int.reduceBEq,reduceCtorEq,Nat.reduceEqDiff,Nat.reduceAdd,Nat.reduceMul,Nat.reduceLT,Int.reduceToNat,Int.reduceLT,Int.reduceLE,Int.reduceSub,Int.reduceNeg,↓reduceIte,bC,aF,BC,↓PC]
  refine⟨[(0,0)],_,_,_,_,_,F,?_,⟨⟨_,rfl,?_,?_⟩,trivial⟩,⟨by simp,trivial⟩,⟨by decide,trivial⟩,by simp,⟨fun _=>rfl,fun _=>rfl,trivial⟩,?_⟩
  ·simp only[SV.renL,SV.ren,aC,bB,List.getElem?_cons_zero,Option.getD_some] <;> rfl
  ·simp only[aA,xl,hX,bB,List.getElem?_cons_zero,Option.getD_some];omega
  ·exact iJ _ _ _
  simp (maxSteps:=1000000) only [lP,ttP,↓gsh,↓gtS,↓gtP,↓gi1,tI,lI,pB,List.range,List.range.loop,gF,Nat.reduceAdd,reduceCtorEq,Nat.reduceEqDiff,Nat.reduceAdd,Nat.reduceSub,Nat.reduceMul,Nat.reduceLeDiff,Nat.reduceLT,Int.reduceToNat,Int.reduceLT,Int.reduceLE,Int.reduceSub,Int.reduceNeg,↓reduceIte,oZ,aF,BC,↓PC]
  exact⟨by omega,by omega,[(0,0),(12,0),(10,0),(5,0),(6,0),(7,0),(8,0),(4,0)],by simp[hin,Nat.reduceAdd,Nat.reduceAdd,Nat.reduceEqDiff,Nat.reduceLT,Nat.reduceLeDiff,↓reduceIte,BC]⟩
 ·have c3:¬ (i:Int) < 16:=by omega
  have F:=IH (i - 16) d (X.take 64) (show i - 16 < 16 by omega) hd xl
  rw[fS (i':=i) (X':=X) 4 (fun j hj=>qZ (h:=4) (by omega) hj) (fun j hj=>jV (h:=4) hj)] at F
  have w1:IntKind.i64.wrap ((i:Int) - 16)=((i - 16:Nat):Int):=by rw[aD (by omega) (by omega)];omega
  have hbit:j8 i 4=true:=qY (h:=4) (by omega) hi
  rw[hbit] at hin
  simp only[if_true] at hin
  simp (maxSteps:=1000000) only [Df,pC,gs,c1,c2,c3,w1,hl,td,lX,tP,lP,Int.reduceBEq,reduceCtorEq,Nat.reduceEqDiff,Nat.reduceAdd,Nat.reduceMul,Nat.reduceLT,Int.reduceToNat,Int.reduceLT,Int.reduceLE,Int.reduceSub,Int.reduceNeg,↓reduceIte,bC,aF,BC,↓PC]
  refine⟨[(0,0)],_,_,_,_,_,F,?_,⟨⟨_,rfl,?_,?_⟩,trivial⟩,⟨by simp,trivial⟩,⟨by decide,trivial⟩,by simp,⟨fun _=>rfl,fun _=>rfl,trivial⟩,?_⟩
  ·simp only[SV.renL,SV.ren,aC,bB,List.getElem?_cons_zero,Option.getD_some] <;> rfl
  ·simp only[aA,xl,hX,bB,List.getElem?_cons_zero,Option.getD_some];omega
  ·exact iJ _ _ _
  simp (maxSteps:=1000000) only [lP,ttP,↓gsh,↓gtS,↓gtP,↓gi2,tI,lI,pB,List.range,List.range.loop,gF,Nat.reduceAdd,reduceCtorEq,Nat.reduceEqDiff,Nat.reduceAdd,Nat.reduceSub,Nat.reduceMul,Nat.reduceLeDiff,Nat.reduceLT,Int.reduceToNat,Int.reduceLT,Int.reduceLE,Int.reduceSub,Int.reduceNeg,↓reduceIte,oZ,aF,BC,↓PC]
  exact⟨by omega,by omega,[(0,0),(12,0),(10,0),(5,0),(6,0),(7,0),(8,0),(4,0)],by simp[hin,Nat.reduceAdd,Nat.reduceAdd,Nat.reduceEqDiff,Nat.reduceLT,Nat.reduceLeDiff,↓reduceIte,BC]⟩
theorem YB (IH:LC 5):LC 6:=by
 intro i d X hi hd hX
 show Fun Tryz.prog aO 142 [.int .i64 64,.int .i64 (i:Int),.agg (aB d),.slc 0 0 16 6 none] [(0,⟨.view,aB X⟩)] 1
  (.tup [.slc 1 0 1 7 none,.bool true]) [(1,⟨.own 56,pB 3 2 6⟩),(2,⟨.own 5,aB (fW i d X 6)⟩)] 9
 have hi:i < 64:=hi
 have hX:X.length=96:=hX
 refine aR none Df xI Bd (Nat.le_of_ble_eq_true rfl) (by decide) ?_
 conv in aJ _ _=>(reduce;simp only[aH,UInt8.reduceOfNat,Int.reduceOfNat,Int.reduceNegSucc])
 rw[aQ]
 have hl:(aB d).length=16:=by rw[aA,hd]
 have td:=cI hd
 have lX:(aB X).length=96:=by rw[aA,hX]
 have pl:(d8 X 5).length=16:=by simp[d8,hX]
 have lP:(aB (d8 X 5)).length=16:=by rw[aA,pl]
 have tP:List.take 16 (List.drop 80 (aB X))=aB (d8 X 5):=by simp[d8,aB,List.map_take,List.map_drop]
 have ttP:=cI pl
 have gs:yX [.int .i64 64]=some (.int .i64 32):=rfl
 have c1:¬ (i:Int) < 0:=by omega
 have c2:¬ (i:Int) ≥ 64:=by omega
 have gtP:=fE pl
 have hin:fW i d X 6=if j8 i 5=true then dV 2 [d8 X 5,nV (fW i d X 5)] else dV 2 [nV (fW i d X 5),d8 X 5]:=rfl
 have il:(fW i d X 5).length=37:=pU (h:=6) hd hX 5 (by decide)
 have sl:=kX (fW i d X 5)
 have gsh:=sR il (by omega)
 have tI:List.take 37 (aB (fW i d X 5))=aB (fW i d X 5):=List.take_of_length_le (by rw[aA,il];omega)
 have lI:(aB (fW i d X 5)).length=37:=by rw[aA,il]
 have gtS:=fE sl
 have gi1:=By sl pl
 have gi2:=By pl sl
 have lS:(aB (nV (fW i d X 5))).length=16:=by rw[aA,sl]
 have ttS:=cI sl
 have xl:(X.take 80).length=16 * 5:=by rw[List.length_take,hX];omega
 by_cases hb:i < 32
 ·have c3:(i:Int) < 32:=by omega
  have F:=IH i d (X.take 80) hb hd xl
  rw[fS (i':=i) (X':=X) 5 (fun _ _=>rfl) (fun j hj=>jV (h:=5) hj)] at F
  have hbit:j8 i 5=false:=vN (h:=5) hb
  rw[hbit] at hin
  simp only[Bool.false_eq_true,if_false] at hin
  simp (maxSteps:=1000000) only [Df,pC,gs,c1,c2,c3,hl,td,lX,tP,lP,Int.reduceBEq,reduceCtorEq,Nat.reduceEqDiff,Nat.reduceAdd,Nat.reduceMul,Nat.reduceLT,Int.reduceToNat,Int.reduceLT,Int.reduceLE,Int.reduceSub,Int.reduceNeg,↓reduceIte,bC,aF,BC,↓PC]
  refine⟨[(0,0)],_,_,_,_,_,F,?_,⟨⟨_,rfl,?_,?_⟩,trivial⟩,⟨by simp,trivial⟩,⟨by decide,trivial⟩,by simp,⟨fun _=>rfl,fun _=>rfl,trivial⟩,?_⟩
  ·simp only[SV.renL,SV.ren,aC,bB,List.getElem?_cons_zero,Option.getD_some] <;> rfl
  ·simp only[aA,xl,hX,bB,List.getElem?_cons_zero,Option.getD_some];omega
  ·exact iJ _ _ _
  simp (maxSteps:=1000000) only [lP,ttP,↓gsh,↓gtS,↓gtP,↓gi1,tI,lI,pB,List.range,List.range.loop,gF,Nat.reduceAdd,reduceCtorEq,Nat.reduceEqDiff,Nat.reduceAdd,Nat.reduceSub,Nat.reduceMul,Nat.reduceLeDiff,Nat.reduceLT,Int.reduceToNat,Int.reduceLT,Int.reduceLE,Int.reduceSub,Int.reduceNeg,↓reduceIte,oZ,aF,BC,↓PC]
  exact⟨by omega,by omega,[(0,0),(13,0),(11,0),(5,0),(6,0),(7,0),(8,0),(9,0),(4,0)],by simp[hin,Nat.reduceAdd,Nat.reduceAdd,Nat.reduceEqDiff,Nat.reduceLT,Nat.reduceLeDiff,↓reduceIte,BC]⟩
 ·have c3:¬ (i:Int) < 32:=by omega
  have F:=IH (i - 32) d (X.take 80) (show i - 32 < 32 by omega) hd xl
  rw[fS (i':=i) (X':=X) 5 (fun j hj=>qZ (h:=5) (by omega) hj) (fun j hj=>jV (h:=5) hj)] at F
  have w1:IntKind.i64.wrap ((i:Int) - 32)=((i - 32:Nat):Int):=by rw[aD (by omega) (by omega)];omega
  have hbit:j8 i 5=true:=qY (h:=5) (by omega) hi
  rw[hbit] at hin
  simp only[if_true] at hin
  simp (maxSteps:=1000000) only [Df,pC,gs,c1,c2,c3,w1,hl,td,lX,tP,lP,Int.reduceBEq,reduceCtorEq,Nat.reduceEqDiff,Nat.reduceAdd,Nat.reduceMul,Nat.reduceLT,Int.reduceToNat,Int.reduceLT,Int.reduceLE,Int.reduceSub,Int.reduceNeg,↓reduceIte,bC,aF,BC,↓PC]
  refine⟨[(0,0)],_,_,_,_,_,F,?_,⟨⟨_,rfl,?_,?_⟩,trivial⟩,⟨by simp,trivial⟩,⟨by decide,trivial⟩,by simp,⟨fun _=>rfl,fun _=>rfl,trivial⟩,?_⟩
  ·simp only[SV.renL,SV.ren,aC,bB,List.getElem?_cons_zero,Option.getD_some] <;> rfl
  ·simp only[aA,xl,hX,bB,List.getElem?_cons_zero,Option.getD_some];omega
  ·exact iJ _ _ _
  simp (maxSteps:=1000000) only [lP,ttP,↓gsh,↓gtS,↓gtP,↓gi2,tI,lI,pB,List.range,List.range.loop,gF,Nat.reduceAdd,reduceCtorEq,Nat.reduceEqDiff,Nat.reduceAdd,Nat.reduceSub,Nat.reduceMul,Nat.reduceLeDiff,Nat.reduceLT,Int.reduceToNat,Int.reduceLT,Int.reduceLE,Int.reduceSub,Int.reduceNeg,↓reduceIte,oZ,aF,BC,↓PC]
  exact⟨by omega,by omega,[(0,0),(13,0),(11,0),(5,0),(6,0),(7,0),(8,0),(9,0),(4,0)],by simp[hin,Nat.reduceAdd,Nat.reduceAdd,Nat.reduceEqDiff,Nat.reduceLT,Nat.reduceLeDiff,↓reduceIte,BC]⟩
theorem VF:∀ h,h≤6→LC h
 | 0,_=>AAm
 | 1,_=>Xw (VF 0 (by decide))
 | 2,_=>Xx (VF 1 (by decide))
 | 3,_=>Xy (VF 2 (by decide))
 | 4,_=>Xz (VF 3 (by decide))
 | 5,_=>YA (VF 4 (by decide))
 | 6,_=>YB (VF 5 (by decide))
 | h+7,hh=>absurd hh (by omega)
def Ic:List (FuncId × GS):=[(116,Mc)]
theorem Pj:∀ x∈Ic,dQ Tryz.prog aO x.1 x.2:=by
 intro x hx
 simp only[Ic,List.mem_cons,List.not_mem_nil,or_false] at hx
 subst hx
 exact T7
def YH:bG:=iB 142 (aY Tryz.prog aO) (dR Ic cF)
theorem Pl:∀ f a m n K,YH f a m n K→aY Tryz.prog aO f a m n K:=eZ (bA Pj bI)
theorem AAn (p d:List UInt8) (hp:p.length=16) (hd:d.length=16) :
  Fun Tryz.prog aO 106 [.agg (aB p),.int .i64 (P2 0),.int .i64 0,.agg (aB d),.val (.slice none 0 0)] [] 0 (.bool (nV (dV 1 [d])==p)) [] 0:=by
 show Fun Tryz.prog aO 106 [.agg (aB p),.int .i64 1,.int .i64 0,.agg (aB d),.val (.slice none 0 0)] [] 0 (.bool (nV (dV 1 [d])==p)) [] 0
 refine aR none YH Pl TW (Nat.le_of_ble_eq_true rfl) (by decide) ?_
 conv in aJ _ _=>(reduce;simp only[aH,seval])
 rw[aQ]
 have hl:(aB d).length=16:=by rw[aA,hd]
 have lp:(aB p).length=16:=by rw[aA,hp]
 have tp:=cI hp
 have td:=cI hd
 simp only[YH,Ic,hl,td,BC,↓PC,seval]
 have F:=AAl d hd
 refine⟨[],_,_,_,_,_,F,?_,trivial,trivial,trivial,by simp,⟨fun _=>rfl,fun _=>rfl,trivial⟩,?_⟩
 ·simp only[SV.renL,SV.ren,aC]
 have il:=xH hd
 have gs:=sR il (by omega)
 have sl:=kX (dV 1 [d])
 have lS:(aB (nV (dV 1 [d]))).length=16:=by rw[aA,sl]
 have tI:List.take 19 (aB (dV 1 [d]))=aB (dV 1 [d]):=List.take_of_length_le (by rw[aA,il];omega)
 have lI:(aB (dV 1 [d])).length=19:=by rw[aA,il]
 have eq:=lN sl hp
 simp only[BC,↓PC,seval]
 iterate 2 (rw[SJ];simp only[BC,↓PC,seval])
 iterate 8 (rw[SK];simp only[lp,tp,lI,tI,↓gs,BC,↓PC,seval])
 rw[SI]
 simp only[eq,BC,↓PC,seval]
 exact⟨[],by simp[BC]⟩
theorem f68 (h i:Nat) (p d X:List UInt8) (hp:p.length=16) (hh:h≤6) (h0:0 < h) (hi:i < 2 ^ h) (hd:d.length=16) (hX:X.length=16 * h) :
  Fun Tryz.prog aO 106 [.agg (aB p),.int .i64 (P2 h),.int .i64 (i:Int),.agg (aB d),.slc 0 0 16 h none] [(0,⟨.view,aB X⟩)] 1 (.bool (nV (fW i d X h)==p)) [] 1:=by
 refine aR none YH Pl TW (Nat.le_of_ble_eq_true rfl) (by decide) ?_
 conv in aJ _ _=>(reduce;simp only[aH,seval])
 rw[aQ]
 have hl:(aB d).length=16:=by rw[aA,hd]
 have lp:(aB p).length=16:=by rw[aA,hp]
 have tp:=cI hp
 have td:=cI hd
 simp only[YH,Ic,hl,td,BC,↓PC,seval]
 have F:=VF h hh i d X hi hd hX
 refine⟨[(0,0)],_,_,_,_,_,F,?_,⟨⟨_,rfl,?_,?_⟩,trivial⟩,⟨by simp,trivial⟩,⟨by decide,trivial⟩,by simp,⟨fun _=>rfl,fun _=>rfl,trivial⟩,?_⟩
 ·simp only[SV.renL,SV.ren,aC,bB,List.getElem?_cons_zero,Option.getD_some]
 ·exact Nat.le_of_eq (Nat.zero_add _)
 ·simp only[bB,BB]
 have il:=pU (i:=i) hd hX h (Nat.le_refl _)
 have lk:gF h=37:=by obtain⟨k,rfl⟩:∃ k,h=k+1:=⟨h - 1,by omega⟩;rfl
 rw[lk] at il
 have gs:=sR il (by omega)
 have sl:=kX (fW i d X h)
 have tI:List.take 37 (aB (fW i d X h))=aB (fW i d X h):=List.take_of_length_le (by rw[aA,il];omega)
 have lI:(aB (fW i d X h)).length=37:=by rw[aA,il]
 have lS:(aB (nV (fW i d X h))).length=16:=by rw[aA,sl]
 have eq:=lN sl hp
 have rO:SV.renL (bB [(0,0)] 3) (pB 3 2 h)=pB 5 4 h:=LA (fun j _=>by unfold bB;rw[show 3+j=(j+2)+1 by omega];simp;omega) rfl
 have gO:=I9 5 4 h
 rw[lk] at gO
 have lO:=LB 5 4 h
 have hS:IntKind.i64.wrap (((h+1:Nat):Int) - 1)=(h:Int):=by rw[aD (by omega) (by omega)];omega
 have hle:(0:Int)≤(h:Int):=by omega
 generalize hI:fW i d X h=I at *
 generalize hOe:pB 5 4 h=O at *
 simp only[rO,BC,↓PC,seval]
 iterate 2 (rw[SJ];simp only[BC,↓PC,seval])
 iterate 8 (rw[SK];simp only[lp,tp,lI,tI,↓gs,gO,lO,hS,hle,BC,↓PC,seval])
 rw[SI]
 simp only[eq,BC,↓PC,seval]
 exact⟨by omega,by omega,by omega,[(0,0)],by simp[BC]⟩
variable {tS:List (Nat × List SV)}
def YI:GS
 | [.int .i64 h],[]=>some (.bool (decide (0≤h) && decide (h≤6)),[],0)
 | _,_=>none
theorem f57 (h:Int):Fun Tryz.prog tS 81 [.int .i64 h] [] 0 (.bool (decide (0≤h) && decide (h≤6))) [] 0:=by
 refine bT none cF bI Zc (Nat.le_of_ble_eq_true rfl) (fun η=>rfl) ?_
 conv in aJ _ _=>(reduce;simp only[aH,seval])
 rw[aQ]
 by_cases h1:0≤h
 ·have e1:h ≥ 0:=h1
  simp only[h1,BC,↓PC,seval]
 ·have e1:¬ h ≥ 0:=h1
  simp only[h1,undef,BC,↓PC,seval]
  rfl
theorem VG:dQ Tryz.prog tS 81 YI:=by
 intro a0 m0 r m1 n1 h
 unfold YI at h
 split at h
 ·cases h
  exact⟨f57 _,by simp[dA]⟩
 ·cases h
theorem f58 (sig:List UInt8):Fun Tryz.prog tS 99 [.str sig] [] 0 (.tup [.fn 136 [] [.ptr 0 0,.ptr 1 0],.fn 137 [] [.ptr 1 0,.ptr 0 0]])
  [(0,⟨.own 29,[.int .i64 0]⟩),(1,⟨.own 56,[.slc 2 0 1 sig.length none]⟩),(2,⟨.own 5,aB sig⟩)] 3:=by
 refine aR none cF bI Zl (Nat.le_of_ble_eq_true rfl) (by decide) ?_
 conv in aJ _ _=>(reduce;simp only[aH,seval])
 rw[aQ]
 have e1:sig.map SV.byte=aB sig:=rfl
 simp only[e1,bC,aF,BC,↓PC,seval]
 exact⟨[(2,0),(1,0),(0,0)],by simp[BC,seval]⟩
theorem f76 (e:Int) (l:Nat):Fun Tryz.prog tS 137 [.ptr 0 0,.ptr 1 0] [(0,⟨.own 56,[.slc 2 0 1 l none]⟩),(1,⟨.own 29,[.int .i64 e]⟩)] 3 (.tup [.slc 2 0 1 l none,.int .i64 e])
  [(0,⟨.own 56,[.slc 2 0 1 l none]⟩),(1,⟨.own 29,[.int .i64 e]⟩)] 3:=by
 refine aR none cF bI Wp (Nat.le_of_ble_eq_true rfl) (by decide) ?_
 conv in aJ _ _=>(reduce;simp only[aH,seval])
 rw[aQ]
 simp only[BC,↓PC,seval]
 exact⟨[(0,0),(1,0),(2,0)],by simp[BC,seval]⟩
theorem AAo (r:List UInt8) (u:Nat) (hu:u≤r.length):Fun Tryz.prog tS 136 [.int .i64 (u:Int),.int .i64 0,.ptr 0 0,.ptr 1 0]
  [(0,⟨.own 29,[.int .i64 0]⟩),(1,⟨.own 56,[.slc 2 0 1 r.length none]⟩),(2,⟨.view,aB r⟩)] 3 (.tup [])
  [(0,⟨.own 29,[.int .i64 0]⟩),(1,⟨.own 56,[.slc 2 u 1 (r.length - u) none]⟩)] 3:=by
 refine aR none cF bI OJ (Nat.le_of_ble_eq_true rfl) (by decide) ?_
 conv in aJ _ _=>(reduce;simp only[aH,seval])
 rw[aQ]
 have h1:(0:Int)≤(u:Int):=by omega
 have h2:(u:Int)≤(r.length:Int):=by omega
 simp only[h1,h2,bC,aF,BC,↓PC,seval]
 exact⟨Int.le_refl _,[(0,0),(1,0),(2,0)],by simp[BC,seval]⟩
theorem AAp (r:List UInt8) (u e:Int) (he:e≠0):Fun Tryz.prog tS 136 [.int .i64 u,.int .i64 e,.ptr 0 0,.ptr 1 0]
  [(0,⟨.own 29,[.int .i64 0]⟩),(1,⟨.own 56,[.slc 2 0 1 r.length none]⟩),(2,⟨.view,aB r⟩)] 3 (.tup [])
  [(0,⟨.own 29,[.int .i64 e]⟩),(1,⟨.own 56,[.slc 2 0 1 r.length none]⟩)] 3:=by
 refine aR none cF bI OJ (Nat.le_of_ble_eq_true rfl) (by decide) ?_
 conv in aJ _ _=>(reduce;simp only[aH,seval])
 rw[aQ]
 have e1:(e==0)=false:=by simpa using he
 simp only[e1,bC,aF,BC,↓PC,seval]
 exact⟨[(0,0),(1,0),(2,0)],by simp[BC,seval]⟩
theorem AAq (r:List UInt8) (u e e0:Int) (he:e0≠0):Fun Tryz.prog tS 136 [.int .i64 u,.int .i64 e,.ptr 0 0,.ptr 1 0]
  [(0,⟨.own 29,[.int .i64 e0]⟩),(1,⟨.own 56,[.slc 2 0 1 r.length none]⟩),(2,⟨.view,aB r⟩)] 3 (.tup [])
  [(0,⟨.own 29,[.int .i64 e0]⟩),(1,⟨.own 56,[.slc 2 0 1 r.length none]⟩)] 3:=by
 refine aR none cF bI OJ (Nat.le_of_ble_eq_true rfl) (by decide) ?_
 conv in aJ _ _=>(reduce;simp only[aH,seval])
 rw[aQ]
 have e1:(e0==0)=false:=by simpa using he
 simp only[e1,BC,↓PC,seval]
 exact⟨[(0,0),(1,0),(2,0)],by simp[BC,seval]⟩
theorem SL (b:List UInt8) (o:Nat) (η:Nat→Nat × Nat):SV.renL η (aB (b.drop o))=List.take (aB (b.drop o)).length (List.drop o (aB b)):=by
 rw[aC,aA,List.length_drop]
 simp only[aB,List.map_drop]
 rw[List.take_of_length_le (by simp)]
theorem rA {m:bL} {n:Nat} {K:Kt} {e:Int} {o l:Nat} (hd:rd m 2=some ⟨.own 56,[.slc 3 o 1 l none]⟩) (he:rd m 1=some ⟨.own 29,[.int .i64 e]⟩) (hn:4≤n)
  (hK:K (.tup [.slc 3 o 1 l none,.int .i64 e]) ([(2,⟨.own 56,[.slc 3 o 1 l none]⟩),(1,⟨.own 29,[.int .i64 e]⟩)]++qM m [2,1]) n) :
  aY Tryz.prog aO 137 [.ptr 2 0,.ptr 1 0] m n K:=by
 refine⟨[(2,0),(1,0),(3,o)],_,_,_,_,3,f76 e l,rfl,⟨⟨_,hd,rfl,rfl,?_⟩,⟨_,he,rfl,rfl,rfl⟩,trivial⟩,⟨by intro x hx;simp at hx;subst hx;intro _;simp[bB],⟨by simp,trivial⟩⟩,⟨by simp,by simp,trivial⟩,
  by intro x hx;simp at hx;rcases hx with rfl|rfl|rfl <;> (simp only;omega),⟨fun _=>rfl,fun _=>rfl,trivial⟩,?_⟩
 ·simp only[SV.renL,SV.ren,bB,BB]
 ·simpa only [SV.renL,SV.ren,bB,cQ,Kind.isOwn,bZ,Nat.sub_self,BB,seval] using hK
theorem tK {m:bL} {n:Nat} {K:Kt} {b:List UInt8} {u e e0:Int} {o:Nat} {D:SV} {e1:Int} (hd:rd m 2=some ⟨.own 56,[.slc 3 o 1 (b.drop o).length none]⟩) (he:rd m 1=some ⟨.own 29,[.int .i64 e0]⟩)
  (h3:rd m 3=some ⟨.own 5,aB b⟩) (hn:4≤n) (ho:o≤b.length)
  (hc:(e0=0∧e=0∧∃ w:Nat,u=(w:Int)∧w≤(b.drop o).length∧D=.slc 3 (o+w) 1 (b.drop (o+w)).length none∧e1=0) ∨
   (D=.slc 3 o 1 (b.drop o).length none∧((e0=0∧e≠0∧e1=e)∨(e0≠0∧e1=e0))))
  (hK:K (.tup []) ([(1,⟨.own 29,[.int .i64 e1]⟩),(2,⟨.own 56,[D]⟩)]++qM m [1,2]) n) :
  aY Tryz.prog aO 136 [.int .i64 u,.int .i64 e,.ptr 1 0,.ptr 2 0] m n K:=by
 have hcomp:aK (bB [(1,0),(2,0),(3,o)] n) m [(0,⟨.own 29,[.int .i64 e0]⟩),(1,⟨.own 56,[.slc 2 0 1 (b.drop o).length none]⟩),(2,⟨.view,aB (b.drop o)⟩)]:=by
  refine⟨⟨_,he,rfl,rfl,rfl⟩,⟨_,hd,rfl,rfl,?_⟩,⟨_,h3,?_,SL b o _⟩,trivial⟩
  ·simp only[SV.renL,SV.ren,bB,BB]
  ·simp only[List.length_drop,bB,BB];omega
 have hap:aM (bB [(1,0),(2,0),(3,o)] n) [(0,⟨.own 29,[.int .i64 e0]⟩),(1,⟨.own 56,[.slc 2 0 1 (b.drop o).length none]⟩),(2,⟨.view,aB (b.drop o)⟩)]:=
  ⟨by intro x hx;simp at hx;rcases hx with rfl|rfl <;> (intro _;simp[bB]),⟨by intro x hx;simp at hx;subst hx;intro _;simp[bB],⟨by simp,trivial⟩⟩⟩
 have hbe:∀ h∈[(1,0),(2,0),(3,o)],h.1 < n:=by intro x hx;simp at hx;rcases hx with rfl|rfl|rfl <;> (simp only;omega)
 rcases hc with⟨rfl,rfl,w,rfl,hw,rfl,rfl⟩|⟨rfl,⟨rfl,h1,rfl⟩|⟨h1,rfl⟩⟩
 ·refine⟨[(1,0),(2,0),(3,o)],_,_,_,_,3,AAo (b.drop o) w hw,rfl,hcomp,hap,⟨by simp,by simp,by simp,trivial⟩,hbe,⟨fun _=>rfl,fun _=>rfl,trivial⟩,?_⟩
  rw[show (b.drop (o+w)).length=(b.drop o).length - w by simp only[List.length_drop];omega] at hK
  simpa only [SV.renL,SV.ren,bB,cQ,Kind.isOwn,bZ,Nat.sub_self,BB,seval] using hK
 ·refine⟨[(1,0),(2,0),(3,o)],_,_,_,_,3,AAp (b.drop o) u e1 h1,rfl,hcomp,hap,⟨by simp,by simp,by simp,trivial⟩,hbe,⟨fun _=>rfl,fun _=>rfl,trivial⟩,?_⟩
  simpa only [SV.renL,SV.ren,bB,cQ,Kind.isOwn,bZ,Nat.sub_self,BB,seval] using hK
 ·refine⟨[(1,0),(2,0),(3,o)],_,_,_,_,3,AAq (b.drop o) u e e1 h1,rfl,hcomp,hap,⟨by simp,by simp,by simp,trivial⟩,hbe,⟨fun _=>rfl,fun _=>rfl,trivial⟩,?_⟩
  simpa only [SV.renL,SV.ren,bB,cQ,Kind.isOwn,bZ,Nat.sub_self,BB,seval] using hK
end Go.Proofs.YtmhkkalbijbplaaGreatDoor
