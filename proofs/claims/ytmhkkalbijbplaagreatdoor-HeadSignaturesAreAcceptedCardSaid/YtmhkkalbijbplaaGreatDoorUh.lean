/- The proof, part Uh: the texts ApD, TrA, MrH, ChkA, DecA, PlaC, DecB, DecC, DecD, DgF, ChkB, ChkC, ApE, ApF, PvA, PvB, LvA, HdA, HdB, SgA, HdD, HdE. -/
import Derived.Test.YtmhkkalbijbplaaGreatDoorUg
import Derived.RangeFuncNested
import Derived.RangeFuncBox
import Derived.RangeFuncCalls
import Derived.RangeFuncLeaves
import Derived.Shelf.Abstract
import Derived.WalkKit
import Derived.OwnWalkIn
import Derived.TacticsInMore
import Derived.LoopNIn
import Derived.LoopIn
import Derived.Maps.AppendAt
import Derived.Deep.WholeRow
set_option linter.unusedSimpArgs false
set_option linter.unusedVariables false
/- The reference's trees of hashes: the root. -/
namespace Go.Proofs.YtmhkkalbijbplaaGreatDoor
open Go Go.Sx
set_option maxRecDepth 100000
set_option linter.unusedVariables false
theorem gOfR_eq2 {tag:Int} {a b:List UInt8} (ha:a.length≤2 ^ 30) (hb:b.length≤2 ^ 30) :
    gOfR [.int .i64 tag,.slc 0 0 1 2 none] [(0,⟨.view,[.str a,.str b]⟩)]=some (.agg (bys (ofS tag [a,b])),[],1):=by
  unfold gOfR
  simp only
  rw [show [SV.str a,SV.str b]=strs [a,b] from rfl,unStr_strs]
  simp only [capB,List.length_cons,List.length_nil]
  rw [if_pos ⟨trivial,okT_2 ha hb⟩]
def tabLn:List (FuncId × GS):=[(76,gOfR),(47,gText)]
theorem tabLn_ok:∀ x ∈ tabLn,FunS Tryz.prog tH2 x.1 x.2:=by
  intro x hx
  simp only [tabLn,List.mem_cons,List.not_mem_nil,or_false] at hx
  rcases hx with rfl | rfl
  · exact gOfR_ok
  · exact gText_ok
def cLn:CallT:=callS tabLn cF
theorem cLn_ok:∀ f a m n K,cLn f a m n K→callT Tryz.prog tH2 f a m n K:=callS_ok tabLn_ok cF_ok
theorem f233 (d:List UInt8) (hd:d.length=16):Fun Tryz.prog tH2 77 [.agg (bys d)] [] 0 (.agg (bys (ofS 1 [d]))) [] 0:=by
  refine fun_pureG none cLn cLn_ok ck77 (Nat.le_of_ble_eq_true rfl) (fun η=>by simp only [SV.ren,ren_bytes]) ?_
  conv in mkSF _ _=>(reduce;simp only [u8lit,UInt8.reduceOfNat,Int.reduceOfNat,Int.reduceNegSucc])
  rw [exG_mk]
  have hl:(bys d).length=16:=by rw [len_bytes,hd]
  have td:=take16 hd
  have gt:=gText_eq hd
  have go:=gOfR_eq1 (tag:=1) (s:=d) (by omega)
  have hO:=ofS_len 1 [d]
  generalize ofS 1 [d]=O at *
  have lO:(bys O).length=16:=by rw [len_bytes,hO]
  have tO:=take16 hO
  simp (config:={ maxSteps:=1000000 }) only [cLn,tabLn,↓gt,↓go,hl,td,lO,tO,reduceCtorEq,Nat.reduceEqDiff,Nat.reduceAdd,Nat.reduceSub,Nat.reduceLT,↓reduceIte,upd,splice,BC,↓PC]
theorem f235 (a b:List UInt8) (ha:a.length=16) (hb:b.length=16):Fun Tryz.prog tH2 79 [.agg (bys a),.agg (bys b)] [] 0 (.agg (bys (ofS 2 [a,b]))) [] 0:=by
  refine fun_pureG none cLn cLn_ok ck79 (Nat.le_of_ble_eq_true rfl) (fun η=>by simp only [SV.ren,ren_bytes]) ?_
  conv in mkSF _ _=>(reduce;simp only [u8lit,UInt8.reduceOfNat,Int.reduceOfNat,Int.reduceNegSucc])
  rw [exG_mk]
  have hla:(bys a).length=16:=by rw [len_bytes,ha]
  have hlb:(bys b).length=16:=by rw [len_bytes,hb]
  have tda:=take16 ha
  have tdb:=take16 hb
  have gta:=gText_eq ha
  have gtb:=gText_eq hb
  have go:=gOfR_eq2 (tag:=2) (a:=a) (b:=b) (by omega) (by omega)
  have hO:=ofS_len 2 [a,b]
  generalize ofS 2 [a,b]=O at *
  have lO:(bys O).length=16:=by rw [len_bytes,hO]
  have tO:=take16 hO
  simp (config:={ maxSteps:=1000000 }) only [cLn,tabLn,↓gta,↓gtb,↓go,hla,hlb,tda,tdb,lO,tO,reduceCtorEq,Nat.reduceEqDiff,Nat.reduceAdd,Nat.reduceSub,Nat.reduceLeDiff,Nat.reduceLT,↓reduceIte,upd,splice,BC,↓PC]
def gLf:List SV→Option SV
  | [.agg cells]=>match unB cells with
    | some d=>if d.length=16 then some (.agg (bys (ofS 1 [d]))) else none
    | none=>none
  | _=>none
theorem gLf_eq {d:List UInt8} (hd:d.length=16):gLf [.agg (bys d)]=some (.agg (bys (ofS 1 [d]))):=by
  unfold gLf
  simp only [unB_bytes]
  rw [if_pos hd]
def gNd:List SV→Option SV
  | [.agg ca,.agg cb]=>match unB ca,unB cb with
    | some a,some b=>if a.length=16∧b.length=16 then some (.agg (bys (ofS 2 [a,b]))) else none
    | _,_=>none
  | _=>none
theorem gNd_eq {a b:List UInt8} (ha:a.length=16) (hb:b.length=16):gNd [.agg (bys a),.agg (bys b)]=some (.agg (bys (ofS 2 [a,b]))):=by
  unfold gNd
  simp only [unB_bytes]
  rw [if_pos ⟨ha,hb⟩]
def tbRo:Tab:=⟨[(77,gLf),(79,gNd),(78,gSpl)],[]⟩
theorem tbRo_ok:TabX Tryz.prog tH2 tbRo:=by
  refine ⟨fun x h args r hr=>?_,fun x h=>by simp [tbRo] at h⟩
  simp only [tbRo,List.mem_cons,List.not_mem_nil,or_false] at h
  rcases h with rfl | rfl | rfl
  · simp only at hr
    unfold gLf at hr
    split at hr
    · split at hr
      · rename_i d hd
        split at hr
        · rename_i hc
          cases hr
          rw [unB_some hd]
          exact ⟨f233 d hc,fun η=>by simp only [SV.renL,SV.ren,ren_bytes],fun η=>by simp only [SV.renL,SV.ren,ren_bytes]⟩
        · cases hr
      · cases hr
    · cases hr
  · simp only at hr
    unfold gNd at hr
    split at hr
    · split at hr
      · rename_i a b ha hb
        split at hr
        · rename_i hc
          cases hr
          rw [unB_some ha,unB_some hb]
          exact ⟨f235 a b hc.1 hc.2,fun η=>by simp only [SV.renL,SV.ren,ren_bytes],fun η=>by simp only [SV.renL,SV.ren,ren_bytes]⟩
        · cases hr
      · cases hr
    · cases hr
  · exact (gSpl_of f103).1 (78,gSpl) (by simp) args r hr
def rootS:Nat→List UInt8→List UInt8
  | 0,X=>ofS 1 [X]
  | h+1,X=>ofS 2 [rootS h (X.take (16 * 2 ^ h)),rootS h (X.drop (16 * 2 ^ h))]
theorem rootS_len (h:Nat) (X:List UInt8):(rootS h X).length=16:=by cases h <;> exact ofS_len _ _
def gRoot (h:Nat):GS
  | [.slc 0 0 16 n none],[(0,⟨.view,cells⟩)]=>match unB cells with
    | some X=>if n=2 ^ h∧X.length=16 * 2 ^ h then some (.agg (bys (rootS h X)),[],1) else none
    | none=>none
  | _,_=>none
theorem gRoot_eq {h n:Nat} {X:List UInt8} (hn:n=2 ^ h) (hX:X.length=16 * 2 ^ h):gRoot h [.slc 0 0 16 n none] [(0,⟨.view,bys X⟩)]=some (.agg (bys (rootS h X)),[],1):=by
  unfold gRoot
  simp only [unB_bytes]
  rw [if_pos ⟨hn,hX⟩]
def Root (h:Nat):Prop:=∀ X:List UInt8,X.length=16 * 2 ^ h→Fun Tryz.prog tH2 33 [.slc 0 0 16 (2 ^ h) none] [(0,⟨.view,bys X⟩)] 1 (.agg (bys (rootS h X))) [] 1
theorem gRoot_ok {h:Nat} (H:Root h):FunS Tryz.prog tH2 33 (gRoot h):=by
  intro a0 m0 r m1 n1 hh
  unfold gRoot at hh
  split at hh
  · split at hh
    · rename_i X hX
      split at hh
      · rename_i hc
        cases hh
        obtain ⟨rfl,h2⟩:=hc
        rw [unB_some hX]
        exact ⟨H X h2,by simp [freshB]⟩
      · cases hh
    · cases hh
  · cases hh
set_option maxHeartbeats 4000000 in
theorem root0:Root 0:=by
  intro X hX
  have hX:X.length=16:=hX
  show Fun Tryz.prog tH2 33 [.slc 0 0 16 1 none] [(0,⟨.view,bys X⟩)] 1 (.agg (bys (ofS 1 [X]))) [] 1
  refine fun_anyG none (callX tbRo) (callX_ok tbRo_ok) ck33 (Nat.le_of_ble_eq_true rfl) (by decide) ?_
  conv in mkSF _ _=>(reduce;simp only [u8lit,UInt8.reduceOfNat,Int.reduceOfNat,Int.reduceNegSucc])
  rw [exG_mk]
  have hl:(bys X).length=16:=by rw [len_bytes,hX]
  have td:=take16 hX
  have gl:=gLf_eq hX
  have hO:=ofS_len 1 [X]
  generalize ofS 1 [X]=O at *
  have lO:(bys O).length=16:=by rw [len_bytes,hO]
  have tO:=take16 hO
  simp (config:={ maxSteps:=1000000 }) only [tbRo,↓gl,hl,td,lO,tO,Int.reduceBEq,reduceCtorEq,Nat.reduceEqDiff,Nat.reduceAdd,Nat.reduceMul,Nat.reduceLT,Int.reduceToNat,Int.reduceLT,Int.reduceLE,↓reduceIte,upd,splice,BC,↓PC]
  exact ⟨[(0,0)],by simp [BC]⟩
set_option maxHeartbeats 4000000 in
theorem rootN {h:Nat} (hh:h < 6) (H:Root h):Root (h+1):=by
  intro X hX
  have e2:2 ^ (h+1)=2 ^ h+2 ^ h:=by rw [Nat.pow_succ];omega
  have gs:=gSpl_eq h hh
  have n6:2 ^ h≤32:=Nat.le_trans (Nat.pow_le_pow_right (by decide) (show h≤5 by omega)) (by decide)
  have n1:1≤2 ^ h:=Nat.one_le_two_pow
  rw [e2] at hX ⊢
  unfold P2 at gs
  rw [e2] at gs
  refine fun_anyG none (callS [(33,gRoot h)] (callX tbRo)) (callS_ok (fun x hx=>by simp only [List.mem_singleton] at hx;subst hx;exact gRoot_ok H) (callX_ok tbRo_ok)) ck33 (Nat.le_of_ble_eq_true rfl) (by decide) ?_
  conv in mkSF _ _=>(reduce;simp only [u8lit,UInt8.reduceOfNat,Int.reduceOfNat,Int.reduceNegSucc])
  rw [exG_mk]
  unfold rootS
  have x1:(X.take (16 * 2 ^ h)).length=16 * 2 ^ h:=by rw [List.length_take];omega
  have x2:(X.drop (16 * 2 ^ h)).length=16 * 2 ^ h:=by rw [List.length_drop];omega
  have g1:=gRoot_eq (h:=h) rfl x1
  have g2:=gRoot_eq (h:=h) rfl x2
  have gn:=gNd_eq (rootS_len h (X.take (16 * 2 ^ h))) (rootS_len h (X.drop (16 * 2 ^ h)))
  have t1:List.take (2 ^ h * 16) (bys X)=bys (X.take (16 * 2 ^ h)):=by rw [Nat.mul_comm];simp [bys,List.map_take]
  have t2:List.take (2 ^ h * 16) (List.drop (2 ^ h * 16) (bys X))=bys (X.drop (16 * 2 ^ h)):=by
    rw [Nat.mul_comm,show List.drop (16 * 2 ^ h) (bys X)=bys (X.drop (16 * 2 ^ h)) by simp [bys,List.map_drop]]
    exact List.take_of_length_le (by rw [len_bytes,x2];exact Nat.le_refl _)
  have lX:(bys X).length=16 * (2 ^ h+2 ^ h):=by rw [len_bytes,hX]
  have r1:=rootS_len h (X.take (16 * 2 ^ h))
  have r2:=rootS_len h (X.drop (16 * 2 ^ h))
  generalize rootS h (X.take (16 * 2 ^ h))=A at *
  generalize rootS h (X.drop (16 * 2 ^ h))=B at *
  generalize X.take (16 * 2 ^ h)=X1 at *
  generalize X.drop (16 * 2 ^ h)=X2 at *
  have hO:=ofS_len 2 [A,B]
  generalize ofS 2 [A,B]=O at *
  have lO:(bys O).length=16:=by rw [len_bytes,hO]
  have tO:=take16 hO
  generalize hn:2 ^ h=k at *
  have c1:(((k+k:Nat):Int) == 0)=false:=by simp;omega
  have c2:(((k+k:Nat):Int) == 1)=false:=by simp;omega
  have c3:(0:Int)≤(k:Int):=by omega
  have c4:(k:Int)≤((k+k:Nat):Int):=by omega
  have c5:k * 16≤16 * (k+k):=by omega
  have c6:k+k - k=k:=by omega
  have c7:k * 16+k * 16≤16 * (k+k):=by omega
  have c8:(k+k) * 16≤16 * (k+k):=by omega
  have fA:=flat_bytes A
  have fB:=flat_bytes B
  simp (config:={ maxSteps:=1000000 }) only [tbRo,↓gs,↓g1,↓g2,↓gn,Option.map_none,c1,c2,c3,c4,c5,c6,c7,c8,t1,t2,lX,fA,fB,lO,tO,reduceCtorEq,Nat.reduceEqDiff,Nat.reduceAdd,Nat.reduceSub,Nat.reduceMul,Nat.reduceLT,Int.reduceToNat,Int.reduceLE,↓reduceIte,evA,upd,splice,BC,↓PC]
  exact ⟨Int.le_refl _,[(0,0)],by simp [BC]⟩
theorem root:∀ h,h≤6→Root h
  | 0,_=>root0
  | h+1,hh=>rootN (by omega) (root h (by omega))
end Go.Proofs.YtmhkkalbijbplaaGreatDoor

/- Trees of hashes: the program's root. -/
namespace Go.Proofs.YtmhkkalbijbplaaGreatDoor
open Go Go.Sx
set_option maxRecDepth 100000
set_option linter.unusedVariables false
variable {tS:List (Nat × List SV)}
theorem h108n:Fun Tryz.prog tS 108 [.int .u8 1,.val (.slice none 0 0)] [] 0 (.slc 0 0 1 1 none) [(0,⟨.own 5,bys [1]⟩)] 1:=by
  refine funM Tryz.f108 (by kernel_rfl) (by decide) ?_
  conv in mkSF _ _=>(reduce;simp only [u8lit,UInt8.reduceOfNat,Int.reduceOfNat,Int.reduceNegSucc])
  simp (config:={ maxSteps:=1000000 }) only [NV,↓NP,reduceCtorEq,Nat.reduceEqDiff,Nat.reduceAdd,↓reduceIte]
  rw [den_loop]
  refine den_unroll (fun _ _ _ _ _ h=>h) (callT_point _ _) 1 ?_
  simp (config:={ maxSteps:=1000000 }) only [NV,↓NP,Nat.reduceEqDiff,Int.reduceLT,↓reduceIte]
  exact ⟨[(0,0)],by simp [NF,↓reduceIte];rfl⟩
theorem h66n:Fun Tryz.prog tH2 66 [.val (.slice none 0 0)] [] 0 (.agg (bys (ofS 1 []))) [] 0:=by
  refine funV Tryz.f66 (by kernel_rfl) (fun _=>by simp only [SV.ren,ren_bytes]) ?_
  conv in mkSF _ _=>(reduce;simp only [u8lit,UInt8.reduceOfNat,Int.reduceOfNat,Int.reduceNegSucc])
  have fs:=(f82 [1] (by decide) none).more tHH
  have hO:=ofS_len 1 []
  rw [show (sumS [1]).take 16=ofS 1 [] from rfl] at fs
  simp (config:={ maxSteps:=1000000 }) only [NV,↓NP,reduceCtorEq,Nat.reduceEqDiff,↓reduceIte]
  refine callN [] h108n ?_
  simp (config:={ maxSteps:=1000000 }) only [NV,NJ,↓NP,reduceCtorEq,Nat.reduceEqDiff,Nat.reduceAdd,↓reduceIte]
  refine callN [(1,0)] fs ?_
  simp (config:={ maxSteps:=1000000 }) only [hO,NV,NJ,↓NP,reduceCtorEq,Nat.reduceEqDiff,Nat.reduceAdd,Nat.reduceSub,Nat.reduceLT,↓reduceIte,upd]
def RootP (h:Nat):Prop:=∀ X:List UInt8,X.length=16 * 2 ^ h→Fun Tryz.prog tH2 66 [.slc 0 0 16 (2 ^ h) none] [(0,⟨.view,bys X⟩)] 1 (.agg (bys (rootS h X))) [] 1
theorem rootP0:RootP 0:=by
  intro X hX
  have hX:X.length=16:=hX
  show Fun Tryz.prog tH2 66 [.slc 0 0 16 1 none] [(0,⟨.view,bys X⟩)] 1 (.agg (bys (ofS 1 [X]))) [] 1
  refine funV Tryz.f66 (by kernel_rfl) (fun _=>by simp only [SV.ren,ren_bytes]) ?_
  conv in mkSF _ _=>(reduce;simp only [u8lit,UInt8.reduceOfNat,Int.reduceOfNat,Int.reduceNegSucc])
  have hm:(ofM 1 [X]).length≤2 ^ 37:=by have:=(okT_1' (tag:=1) (s:=X) (by omega)).2.1;omega
  have fs:=(f82 (ofM 1 [X]) hm none).more tHH
  have hO:=ofS_len 1 [X]
  rw [show (sumS (ofM 1 [X])).take 16=ofS 1 [X] from rfl] at fs
  simp (config:={ maxSteps:=1000000 }) only [hX,NV,↓NP,Int.reduceBEq,reduceCtorEq,Nat.reduceEqDiff,Nat.reduceAdd,Nat.reduceMul,Nat.reduceLT,Int.reduceToNat,Int.reduceLT,↓reduceIte]
  refine callN [] (f97 X hX) ?_
  simp (config:={ maxSteps:=1000000 }) only [NV,NJ,↓NP,Nat.reduceEqDiff,Nat.reduceAdd,↓reduceIte]
  refine callN [(2,0)] fs ?_
  simp (config:={ maxSteps:=1000000 }) only [hO,NV,NJ,↓NP,reduceCtorEq,Nat.reduceEqDiff,Nat.reduceAdd,Nat.reduceSub,Nat.reduceLT,↓reduceIte,upd]
set_option maxHeartbeats 4000000 in
theorem rootPN {h:Nat} (hh:h < 6) (H:RootP h):RootP (h+1):=by
  intro X hX
  have e2:2 ^ (h+1)=2 ^ h+2 ^ h:=by rw [Nat.pow_succ];omega
  have fsp:=f106 (tS:=tH2) h hh
  have n6:2 ^ h≤32:=Nat.le_trans (Nat.pow_le_pow_right (by decide) (show h≤5 by omega)) (by decide)
  have n1:1≤2 ^ h:=Nat.one_le_two_pow
  rw [e2] at hX ⊢
  unfold P2 at fsp
  rw [e2] at fsp
  refine funV Tryz.f66 (by kernel_rfl) (fun _=>by simp only [SV.ren,ren_bytes]) ?_
  conv in mkSF _ _=>(reduce;simp only [u8lit,UInt8.reduceOfNat,Int.reduceOfNat,Int.reduceNegSucc])
  have x1:(X.take (16 * 2 ^ h)).length=16 * 2 ^ h:=by rw [List.length_take];omega
  have x2:(X.drop (16 * 2 ^ h)).length=16 * 2 ^ h:=by rw [List.length_drop];omega
  have fr1:=H _ x1
  have fr2:=H _ x2
  have t1:List.take (16 * 2 ^ h) (bys X)=bys (X.take (16 * 2 ^ h)):=by simp [bys,List.map_take]
  have t2:List.take (16 * 2 ^ h) (List.drop (2 ^ h * 16) (bys X))=bys (X.drop (16 * 2 ^ h)):=by
    rw [Nat.mul_comm (2 ^ h),show List.drop (16 * 2 ^ h) (bys X)=bys (X.drop (16 * 2 ^ h)) by simp [bys,List.map_drop]]
    exact List.take_of_length_le (by rw [len_bytes,x2];exact Nat.le_refl _)
  have r1:=rootS_len h (X.take (16 * 2 ^ h))
  have r2:=rootS_len h (X.drop (16 * 2 ^ h))
  unfold rootS
  generalize rootS h (X.take (16 * 2 ^ h))=A at *
  generalize rootS h (X.drop (16 * 2 ^ h))=B at *
  generalize X.take (16 * 2 ^ h)=X1 at *
  generalize X.drop (16 * 2 ^ h)=X2 at *
  have hm:(ofM 2 [A,B]).length≤2 ^ 37:=by have:=(okT_2 (tag:=2) (a:=A) (b:=B) (by omega) (by omega)).2.1;omega
  have fs:=(f82 (ofM 2 [A,B]) hm none).more tHH
  have hO:=ofS_len 2 [A,B]
  rw [show (sumS (ofM 2 [A,B])).take 16=ofS 2 [A,B] from rfl] at fs
  generalize ofS 2 [A,B]=O at *
  generalize hn:2 ^ h=k at *
  have c1:(((k+k:Nat):Int) == 0)=false:=by simp;omega
  have c2:(((k+k:Nat):Int) == 1)=false:=by simp;omega
  have c3:(0:Int)≤(k:Int):=by omega
  have c4:(k:Int)≤((k+k:Nat):Int):=by omega
  have c5:k * 16≤16 * (k+k):=by omega
  have c6:k+k - k=k:=by omega
  have c7:k * 16+16 * k≤16 * (k+k):=by omega
  have c8:(k+k) * 16≤16 * (k+k):=by omega
  have c9:16 * k≤16 * (k+k):=by omega
  simp (config:={ maxSteps:=1000000 }) only [c1,c2,NV,↓NP,reduceCtorEq,Nat.reduceEqDiff,Nat.reduceAdd,↓reduceIte]
  refine callP fsp ?_
  simp (config:={ maxSteps:=1000000 }) only [hX,c3,c4,c8,Option.map_none,NV,↓NP,reduceCtorEq,Nat.reduceEqDiff,Nat.reduceMul,Int.reduceToNat,↓reduceIte]
  refine callN [(0,0)] fr1 ?_
  simp (config:={ maxSteps:=1000000 }) only [x1,hX,c9,t1,c3,c4,c8,NV,NJ,↓NP,reduceCtorEq,Nat.reduceEqDiff,Nat.reduceSub,Nat.reduceLT,↓reduceIte]
  refine callN [(0,k * 16)] fr2 ?_
  simp (config:={ maxSteps:=1000000 }) only [x2,hX,c6,c7,t2,NV,NJ,↓NP,reduceCtorEq,Nat.reduceEqDiff,Nat.reduceSub,Nat.reduceLT,↓reduceIte]
  refine callN [] (f98 A B r1 r2) ?_
  simp (config:={ maxSteps:=1000000 }) only [NV,NJ,↓NP,Nat.reduceEqDiff,Nat.reduceAdd,↓reduceIte]
  refine callN [(2,0)] fs ?_
  simp (config:={ maxSteps:=1000000 }) only [hO,NV,NJ,↓NP,reduceCtorEq,Nat.reduceEqDiff,Nat.reduceAdd,Nat.reduceSub,Nat.reduceLT,↓reduceIte,upd]
theorem rootP:∀ h,h≤6→RootP h
  | 0,_=>rootP0
  | h+1,hh=>rootPN (by omega) (rootP h (by omega))
end Go.Proofs.YtmhkkalbijbplaaGreatDoor

/- Merkle trees: the reference's check of a proof. -/
namespace Go.Proofs.YtmhkkalbijbplaaGreatDoor
open Go Go.Sx
set_option maxRecDepth 100000
set_option linter.unusedVariables false
theorem inp:∀ h,h≤6→Inp h
  | 0,_=>f84e
  | 1,_=>f84s0 (inp 0 (by decide))
  | 2,_=>f84s1 (inp 1 (by decide))
  | 3,_=>f84s2 (inp 2 (by decide))
  | 4,_=>f84s3 (inp 3 (by decide))
  | 5,_=>f84s4 (inp 4 (by decide))
  | 6,_=>f84s5 (inp 5 (by decide))
  | h+7,hh=>absurd hh (by omega)
def tabVh:List (FuncId × GS):=[(116,gShN)]
theorem tabVh_ok:∀ x ∈ tabVh,FunS Tryz.prog tH2 x.1 x.2:=by
  intro x hx
  simp only [tabVh,List.mem_cons,List.not_mem_nil,or_false] at hx
  subst hx
  exact gSh55
def cVh:CallT:=callAnd 142 (callT Tryz.prog tH2) (callS tabVh cF)
theorem cVh_ok:∀ f a m n K,cVh f a m n K→callT Tryz.prog tH2 f a m n K:=callAnd_ok (callS_ok tabVh_ok cF_ok)
set_option maxHeartbeats 8000000 in
theorem f68z (p d:List UInt8) (hp:p.length=16) (hd:d.length=16) :
    Fun Tryz.prog tH2 106 [.agg (bys p),.int .i64 (P2 0),.int .i64 0,.agg (bys d),.val (.slice none 0 0)] [] 0 (.bool (shS (ofM 1 [d]) == p)) [] 0:=by
  show Fun Tryz.prog tH2 106 [.agg (bys p),.int .i64 1,.int .i64 0,.agg (bys d),.val (.slice none 0 0)] [] 0 (.bool (shS (ofM 1 [d]) == p)) [] 0
  refine fun_anyG none cVh cVh_ok ck106 (Nat.le_of_ble_eq_true rfl) (by decide) ?_
  conv in mkSF _ _=>(reduce;simp only [u8lit,UInt8.reduceOfNat,Int.reduceOfNat,Int.reduceNegSucc])
  rw [exG_mk]
  have hl:(bys d).length=16:=by rw [len_bytes,hd]
  have lp:(bys p).length=16:=by rw [len_bytes,hp]
  have tp:=take16 hp
  have td:=take16 hd
  simp (config:={ maxSteps:=1000000 }) only [cVh,tabVh,hl,td,reduceCtorEq,Nat.reduceEqDiff,Nat.reduceAdd,↓reduceIte,BC,↓PC]
  have F:=f84n d hd
  refine ⟨[],_,_,_,_,_,F,?_,trivial,trivial,trivial,by simp,⟨fun _=>rfl,fun _=>rfl,trivial⟩,?_⟩
  · simp only [SV.renL,SV.ren,ren_bytes]
  have il:=leaf_len hd
  have gs:=gShN_eq il (by omega)
  have sl:=shS_len (ofM 1 [d])
  have lS:(bys (shS (ofM 1 [d]))).length=16:=by rw [len_bytes,sl]
  have tI:List.take 19 (bys (ofM 1 [d]))=bys (ofM 1 [d]):=List.take_of_length_le (by rw [len_bytes,il];omega)
  have lI:(bys (ofM 1 [d])).length=19:=by rw [len_bytes,il]
  have eq:=eqPub sl hp
  simp (config:={ maxSteps:=1000000 }) only [Nat.reduceEqDiff,Nat.reduceAdd,↓reduceIte,BC,↓PC]
  iterate 2 (rw [ev_n];simp (config:={ maxSteps:=1000000 }) only [Nat.reduceEqDiff,↓reduceIte,BC,↓PC])
  iterate 8 (rw [ev_g];simp (config:={ maxSteps:=1000000 }) only [lp,tp,lI,tI,↓gs,reduceCtorEq,Nat.reduceEqDiff,Nat.reduceSub,Nat.reduceLT,Int.reduceToNat,Int.reduceLT,Int.reduceLE,Int.reduceSub,Int.reduceNeg,↓reduceIte,BC,↓PC])
  rw [ev_0]
  simp (config:={ maxSteps:=1000000 }) only [eq,reduceCtorEq,Nat.reduceEqDiff,↓reduceIte,BC,↓PC]
  exact ⟨[],by simp [BC]⟩
set_option maxHeartbeats 8000000 in
theorem f68 (h i:Nat) (p d X:List UInt8) (hp:p.length=16) (hh:h≤6) (h0:0 < h) (hi:i < 2 ^ h) (hd:d.length=16) (hX:X.length=16 * h) :
    Fun Tryz.prog tH2 106 [.agg (bys p),.int .i64 (P2 h),.int .i64 (i:Int),.agg (bys d),.slc 0 0 16 h none] [(0,⟨.view,bys X⟩)] 1 (.bool (shS (inK i d X h) == p)) [] 1:=by
  refine fun_anyG none cVh cVh_ok ck106 (Nat.le_of_ble_eq_true rfl) (by decide) ?_
  conv in mkSF _ _=>(reduce;simp only [u8lit,UInt8.reduceOfNat,Int.reduceOfNat,Int.reduceNegSucc])
  rw [exG_mk]
  have hl:(bys d).length=16:=by rw [len_bytes,hd]
  have lp:(bys p).length=16:=by rw [len_bytes,hp]
  have tp:=take16 hp
  have td:=take16 hd
  simp (config:={ maxSteps:=1000000 }) only [cVh,tabVh,hl,td,reduceCtorEq,Nat.reduceEqDiff,Nat.reduceAdd,↓reduceIte,BC,↓PC]
  have F:=inp h hh i d X hi hd hX
  refine ⟨[(0,0)],_,_,_,_,_,F,?_,⟨⟨_,rfl,?_,?_⟩,trivial⟩,⟨by simp,trivial⟩,⟨by decide,trivial⟩,by simp,⟨fun _=>rfl,fun _=>rfl,trivial⟩,?_⟩
  · simp only [SV.renL,SV.ren,ren_bytes,eta,List.getElem?_cons_zero,Option.getD_some]
  · exact Nat.le_of_eq (Nat.zero_add _)
  · simp only [eta,BB]
  have il:=inK_len (i:=i) hd hX h (Nat.le_refl _)
  have lk:lenK h=37:=by obtain ⟨k,rfl⟩:∃ k,h=k+1:=⟨h - 1,by omega⟩;rfl
  rw [lk] at il
  have gs:=gShN_eq il (by omega)
  have sl:=shS_len (inK i d X h)
  have tI:List.take 37 (bys (inK i d X h))=bys (inK i d X h):=List.take_of_length_le (by rw [len_bytes,il];omega)
  have lI:(bys (inK i d X h)).length=37:=by rw [len_bytes,il]
  have lS:(bys (shS (inK i d X h))).length=16:=by rw [len_bytes,sl]
  have eq:=eqPub sl hp
  have rO:SV.renL (eta [(0,0)] 3) (ouC 3 2 h)=ouC 5 4 h:=ren_ouC (fun j _=>by unfold eta;rw [show 3+j=(j+2)+1 by omega];simp;omega) rfl
  have gO:=ouC_last 5 4 h
  rw [lk] at gO
  have lO:=ouC_len 5 4 h
  have hS:IntKind.i64.wrap (((h+1:Nat):Int) - 1)=(h:Int):=by rw [wrap64_eq (by omega) (by omega)];omega
  have hle:(0:Int)≤(h:Int):=by omega
  generalize hI:inK i d X h=I at *
  generalize hOe:ouC 5 4 h=O at *
  simp (config:={ maxSteps:=1000000 }) only [rO,Nat.reduceEqDiff,Nat.reduceAdd,Nat.reduceSub,↓reduceIte,BC,↓PC]
  iterate 2 (rw [ev_n];simp (config:={ maxSteps:=1000000 }) only [Nat.reduceEqDiff,↓reduceIte,BC,↓PC])
  iterate 8 (rw [ev_g];simp (config:={ maxSteps:=1000000 }) only [lp,tp,lI,tI,↓gs,gO,lO,hS,hle,Nat.reduceEqDiff,Nat.reduceSub,↓reduceIte,BC,↓PC])
  rw [ev_0]
  simp (config:={ maxSteps:=1000000 }) only [eq,reduceCtorEq,Nat.reduceEqDiff,↓reduceIte,BC,↓PC]
  exact ⟨by omega,by omega,by omega,[(0,0)],by simp [BC]⟩
end Go.Proofs.YtmhkkalbijbplaaGreatDoor

/- The check of a signature of a tree: the height, the reader, the proof. -/
namespace Go.Proofs.YtmhkkalbijbplaaGreatDoor
open Go Go.Sx
set_option maxRecDepth 100000
set_option linter.unusedVariables false
variable {tS:List (Nat × List SV)}
def gHt:GS
  | [.int .i64 h],[]=>some (.bool (decide (0≤h) && decide (h≤6)),[],0)
  | _,_=>none
theorem f57 (h:Int):Fun Tryz.prog tS 81 [.int .i64 h] [] 0 (.bool (decide (0≤h) && decide (h≤6))) [] 0:=by
  refine fun_pureG none cF cF_ok ck81 (Nat.le_of_ble_eq_true rfl) (fun η=>rfl) ?_
  conv in mkSF _ _=>(reduce;simp only [u8lit,UInt8.reduceOfNat,Int.reduceOfNat,Int.reduceNegSucc])
  rw [exG_mk]
  by_cases h1:0≤h
  · have e1:h ≥ 0:=h1
    simp (config:={ maxSteps:=1000000 }) only [h1,reduceCtorEq,Nat.reduceEqDiff,↓reduceIte,BC,↓PC]
  · have e1:¬ h ≥ 0:=h1
    simp (config:={ maxSteps:=1000000 }) only [h1,undef,reduceCtorEq,Nat.reduceEqDiff,↓reduceIte,BC,↓PC]
    rfl
theorem gHt_ok:FunS Tryz.prog tS 81 gHt:=by
  intro a0 m0 r m1 n1 h
  unfold gHt at h
  split at h
  · cases h
    exact ⟨f57 _,by simp [freshB]⟩
  · cases h
theorem f58 (sig:List UInt8):Fun Tryz.prog tS 99 [.str sig] [] 0 (.tup [.fn 136 [] [.ptr 0 0,.ptr 1 0],.fn 137 [] [.ptr 1 0,.ptr 0 0]])
    [(0,⟨.own 29,[.int .i64 0]⟩),(1,⟨.own 56,[.slc 2 0 1 sig.length none]⟩),(2,⟨.own 5,bys sig⟩)] 3:=by
  refine fun_anyG none cF cF_ok ck99 (Nat.le_of_ble_eq_true rfl) (by decide) ?_
  conv in mkSF _ _=>(reduce;simp only [u8lit,UInt8.reduceOfNat,Int.reduceOfNat,Int.reduceNegSucc])
  rw [exG_mk]
  have e1:sig.map SV.byte=bys sig:=rfl
  simp (config:={ maxSteps:=1000000 }) only [e1,reduceCtorEq,Nat.reduceEqDiff,Nat.reduceAdd,↓reduceIte,upd,splice,BC,↓PC]
  exact ⟨[(2,0),(1,0),(0,0)],by simp [Nat.reduceAdd,Nat.reduceLT,Nat.reduceLeDiff,↓reduceIte,reduceCtorEq,BC]⟩
theorem f76 (e:Int) (l:Nat):Fun Tryz.prog tS 137 [.ptr 0 0,.ptr 1 0] [(0,⟨.own 56,[.slc 2 0 1 l none]⟩),(1,⟨.own 29,[.int .i64 e]⟩)] 3 (.tup [.slc 2 0 1 l none,.int .i64 e])
    [(0,⟨.own 56,[.slc 2 0 1 l none]⟩),(1,⟨.own 29,[.int .i64 e]⟩)] 3:=by
  refine fun_anyG none cF cF_ok ck137 (Nat.le_of_ble_eq_true rfl) (by decide) ?_
  conv in mkSF _ _=>(reduce;simp only [u8lit,UInt8.reduceOfNat,Int.reduceOfNat,Int.reduceNegSucc])
  rw [exG_mk]
  simp (config:={ maxSteps:=1000000 }) only [reduceCtorEq,Nat.reduceEqDiff,↓reduceIte,BC,↓PC]
  exact ⟨[(0,0),(1,0),(2,0)],by simp [Nat.reduceAdd,Nat.reduceLT,Nat.reduceLeDiff,↓reduceIte,BC]⟩
theorem f75a (r:List UInt8) (u:Nat) (hu:u≤r.length):Fun Tryz.prog tS 136 [.int .i64 (u:Int),.int .i64 0,.ptr 0 0,.ptr 1 0]
    [(0,⟨.own 29,[.int .i64 0]⟩),(1,⟨.own 56,[.slc 2 0 1 r.length none]⟩),(2,⟨.view,bys r⟩)] 3 (.tup [])
    [(0,⟨.own 29,[.int .i64 0]⟩),(1,⟨.own 56,[.slc 2 u 1 (r.length - u) none]⟩)] 3:=by
  refine fun_anyG none cF cF_ok ck136 (Nat.le_of_ble_eq_true rfl) (by decide) ?_
  conv in mkSF _ _=>(reduce;simp only [u8lit,UInt8.reduceOfNat,Int.reduceOfNat,Int.reduceNegSucc])
  rw [exG_mk]
  have h1:(0:Int)≤(u:Int):=by omega
  have h2:(u:Int)≤(r.length:Int):=by omega
  simp (config:={ maxSteps:=1000000 }) only [h1,h2,reduceCtorEq,Nat.reduceEqDiff,Nat.reduceAdd,↓reduceIte,upd,splice,BC,↓PC]
  exact ⟨Int.le_refl _,[(0,0),(1,0),(2,0)],by simp [Nat.reduceAdd,Nat.reduceLT,Nat.reduceLeDiff,↓reduceIte,BC]⟩
theorem f75b (r:List UInt8) (u e:Int) (he:e≠0):Fun Tryz.prog tS 136 [.int .i64 u,.int .i64 e,.ptr 0 0,.ptr 1 0]
    [(0,⟨.own 29,[.int .i64 0]⟩),(1,⟨.own 56,[.slc 2 0 1 r.length none]⟩),(2,⟨.view,bys r⟩)] 3 (.tup [])
    [(0,⟨.own 29,[.int .i64 e]⟩),(1,⟨.own 56,[.slc 2 0 1 r.length none]⟩)] 3:=by
  refine fun_anyG none cF cF_ok ck136 (Nat.le_of_ble_eq_true rfl) (by decide) ?_
  conv in mkSF _ _=>(reduce;simp only [u8lit,UInt8.reduceOfNat,Int.reduceOfNat,Int.reduceNegSucc])
  rw [exG_mk]
  have e1:(e == 0)=false:=by simpa using he
  simp (config:={ maxSteps:=1000000 }) only [e1,reduceCtorEq,Nat.reduceEqDiff,Nat.reduceAdd,↓reduceIte,upd,splice,BC,↓PC]
  exact ⟨[(0,0),(1,0),(2,0)],by simp [Nat.reduceAdd,Nat.reduceLT,Nat.reduceLeDiff,↓reduceIte,BC]⟩
theorem f75c (r:List UInt8) (u e e0:Int) (he:e0≠0):Fun Tryz.prog tS 136 [.int .i64 u,.int .i64 e,.ptr 0 0,.ptr 1 0]
    [(0,⟨.own 29,[.int .i64 e0]⟩),(1,⟨.own 56,[.slc 2 0 1 r.length none]⟩),(2,⟨.view,bys r⟩)] 3 (.tup [])
    [(0,⟨.own 29,[.int .i64 e0]⟩),(1,⟨.own 56,[.slc 2 0 1 r.length none]⟩)] 3:=by
  refine fun_anyG none cF cF_ok ck136 (Nat.le_of_ble_eq_true rfl) (by decide) ?_
  conv in mkSF _ _=>(reduce;simp only [u8lit,UInt8.reduceOfNat,Int.reduceOfNat,Int.reduceNegSucc])
  rw [exG_mk]
  have e1:(e0 == 0)=false:=by simpa using he
  simp (config:={ maxSteps:=1000000 }) only [e1,reduceCtorEq,Nat.reduceEqDiff,Nat.reduceAdd,↓reduceIte,BC,↓PC]
  exact ⟨[(0,0),(1,0),(2,0)],by simp [Nat.reduceAdd,Nat.reduceLT,Nat.reduceLeDiff,↓reduceIte,BC]⟩
theorem view_at (b:List UInt8) (o:Nat) (η:Nat→Nat × Nat):SV.renL η (bys (b.drop o))=List.take (bys (b.drop o)).length (List.drop o (bys b)):=by
  rw [ren_bytes,len_bytes,List.length_drop]
  simp only [bys,List.map_drop]
  rw [List.take_of_length_le (by simp)]
theorem call76 {m:Mem} {n:Nat} {K:Kt} {e:Int} {o l:Nat} (hd:rd m 2=some ⟨.own 56,[.slc 3 o 1 l none]⟩) (he:rd m 1=some ⟨.own 29,[.int .i64 e]⟩) (hn:4≤n)
    (hK:K (.tup [.slc 3 o 1 l none,.int .i64 e]) ([(2,⟨.own 56,[.slc 3 o 1 l none]⟩),(1,⟨.own 29,[.int .i64 e]⟩)]++rms m [2,1]) n) :
    callT Tryz.prog tH2 137 [.ptr 2 0,.ptr 1 0] m n K:=by
  refine ⟨[(2,0),(1,0),(3,o)],_,_,_,_,3,f76 e l,rfl,⟨⟨_,hd,rfl,rfl,?_⟩,⟨_,he,rfl,rfl,rfl⟩,trivial⟩,⟨by intro x hx;simp at hx;subst hx;intro _;simp [eta],⟨by simp,trivial⟩⟩,⟨by simp,by simp,trivial⟩,
    by intro x hx;simp at hx;rcases hx with rfl | rfl | rfl <;> (simp only;omega),⟨fun _=>rfl,fun _=>rfl,trivial⟩,?_⟩
  · simp only [SV.renL,SV.ren,eta,BB]
  · simpa only [SV.renL,SV.ren,eta,newOwn,Kind.isOwn,targets,Nat.sub_self,Nat.reduceAdd,BB] using hK
theorem call75 {m:Mem} {n:Nat} {K:Kt} {b:List UInt8} {u e e0:Int} {o:Nat} {D:SV} {e1:Int} (hd:rd m 2=some ⟨.own 56,[.slc 3 o 1 (b.drop o).length none]⟩) (he:rd m 1=some ⟨.own 29,[.int .i64 e0]⟩)
    (h3:rd m 3=some ⟨.own 5,bys b⟩) (hn:4≤n) (ho:o≤b.length)
    (hc:(e0=0∧e=0∧∃ w:Nat,u=(w:Int)∧w≤(b.drop o).length∧D=.slc 3 (o+w) 1 (b.drop (o+w)).length none∧e1=0) ∨
      (D=.slc 3 o 1 (b.drop o).length none∧((e0=0∧e≠0∧e1=e)∨(e0≠0∧e1=e0))))
    (hK:K (.tup []) ([(1,⟨.own 29,[.int .i64 e1]⟩),(2,⟨.own 56,[D]⟩)]++rms m [1,2]) n) :
    callT Tryz.prog tH2 136 [.int .i64 u,.int .i64 e,.ptr 1 0,.ptr 2 0] m n K:=by
  have hcomp:compat (eta [(1,0),(2,0),(3,o)] n) m [(0,⟨.own 29,[.int .i64 e0]⟩),(1,⟨.own 56,[.slc 2 0 1 (b.drop o).length none]⟩),(2,⟨.view,bys (b.drop o)⟩)]:=by
    refine ⟨⟨_,he,rfl,rfl,rfl⟩,⟨_,hd,rfl,rfl,?_⟩,⟨_,h3,?_,view_at b o _⟩,trivial⟩
    · simp only [SV.renL,SV.ren,eta,BB]
    · simp only [List.length_drop,eta,BB];omega
  have hap:apartM (eta [(1,0),(2,0),(3,o)] n) [(0,⟨.own 29,[.int .i64 e0]⟩),(1,⟨.own 56,[.slc 2 0 1 (b.drop o).length none]⟩),(2,⟨.view,bys (b.drop o)⟩)]:=
    ⟨by intro x hx;simp at hx;rcases hx with rfl | rfl <;> (intro _;simp [eta]),⟨by intro x hx;simp at hx;subst hx;intro _;simp [eta],⟨by simp,trivial⟩⟩⟩
  have hbe:∀ h ∈ [(1,0),(2,0),(3,o)],h.1 < n:=by intro x hx;simp at hx;rcases hx with rfl | rfl | rfl <;> (simp only;omega)
  rcases hc with ⟨rfl,rfl,w,rfl,hw,rfl,rfl⟩ | ⟨rfl,⟨rfl,h1,rfl⟩ | ⟨h1,rfl⟩⟩
  · refine ⟨[(1,0),(2,0),(3,o)],_,_,_,_,3,f75a (b.drop o) w hw,rfl,hcomp,hap,⟨by simp,by simp,by simp,trivial⟩,hbe,⟨fun _=>rfl,fun _=>rfl,trivial⟩,?_⟩
    rw [show (b.drop (o+w)).length=(b.drop o).length - w by simp only [List.length_drop];omega] at hK
    simpa only [SV.renL,SV.ren,eta,newOwn,Kind.isOwn,targets,Nat.sub_self,Nat.reduceAdd,BB] using hK
  · refine ⟨[(1,0),(2,0),(3,o)],_,_,_,_,3,f75b (b.drop o) u e1 h1,rfl,hcomp,hap,⟨by simp,by simp,by simp,trivial⟩,hbe,⟨fun _=>rfl,fun _=>rfl,trivial⟩,?_⟩
    simpa only [SV.renL,SV.ren,eta,newOwn,Kind.isOwn,targets,Nat.sub_self,Nat.reduceAdd,BB] using hK
  · refine ⟨[(1,0),(2,0),(3,o)],_,_,_,_,3,f75c (b.drop o) u e e1 h1,rfl,hcomp,hap,⟨by simp,by simp,by simp,trivial⟩,hbe,⟨fun _=>rfl,fun _=>rfl,trivial⟩,?_⟩
    simpa only [SV.renL,SV.ren,eta,newOwn,Kind.isOwn,targets,Nat.sub_self,Nat.reduceAdd,BB] using hK
end Go.Proofs.YtmhkkalbijbplaaGreatDoor

/- Package wire: the reading of an integer. -/
namespace Go.Proofs.YtmhkkalbijbplaaGreatDoor
open Go Go.Sx
set_option maxRecDepth 100000
set_option linter.unusedVariables false
variable {tS:List (Nat × List SV)}
def kOf (h:Nat):Nat:=if h < 128 then 127 - h else h - 128
def flU (h:Nat) (c:UInt8):UInt8:=if h < 128 then UInt8.ofNat (255 - c.toNat) else c
def valB (l:List UInt8):Nat:=l.foldl (fun a c=>a * 256+c.toNat) 0
def decS (b:List UInt8):Int × Nat × Int:=match b with
  | []=>(0,0,5)
  | c :: r=>if kOf c.toNat > 8 then (0,0,6) else if r.length < kOf c.toNat then (0,0,5) else
    if ((r.take (kOf c.toNat)).map (flU c.toNat)).head?=some 0 then (0,0,6) else
    if valB ((r.take (kOf c.toNat)).map (flU c.toNat)) ≥ 9223372036854775808 then (0,0,6) else
    ((if c.toNat < 128 then -1 - (valB ((r.take (kOf c.toNat)).map (flU c.toNat)):Int) else (valB ((r.take (kOf c.toNat)).map (flU c.toNat)):Int)),kOf c.toNat+1,0)
def tup3 (x:Int × Nat × Int):SV:=.tup [.int .i64 x.1,.int .i64 (x.2.1:Int),.int .i64 x.2.2]

theorem valB_snoc (l:List UInt8) (c:UInt8):valB (l++[c])=valB l * 256+c.toNat:=by simp [valB]
theorem fold_lt:∀ (l:List UInt8) (a:Nat),l.foldl (fun a c=>a * 256+c.toNat) a < (a+1) * 256 ^ l.length
  | [],a=>by simp
  | c :: l,a=>by
    have:=fold_lt l (a * 256+c.toNat)
    have hc:=c.toNat_lt
    simp only [List.foldl_cons,List.length_cons,Nat.pow_succ]
    have h1:(a * 256+c.toNat+1) * 256 ^ l.length≤(a+1) * 256 * 256 ^ l.length:=Nat.mul_le_mul_right _ (by omega)
    have h2:(a+1) * 256 * 256 ^ l.length=(a+1) * (256 ^ l.length * 256):=by rw [Nat.mul_assoc,Nat.mul_comm 256]
    omega
theorem valB_lt (l:List UInt8):valB l < 256 ^ l.length:=by have:=fold_lt l 0;unfold valB;omega
theorem or_byte {m c:Nat} (hm:m < 72057594037927936) (hc:c < 256):bitop .or .u64 (IntKind.u64.wrap ((m:Int) * 2 ^ (min 8 IntKind.u64.bits))) (IntKind.u64.wrap (c:Int))=((m * 256+c:Nat):Int):=by
  have e0:min 8 IntKind.u64.bits=8:=by decide
  rw [e0]
  have e1:IntKind.u64.wrap ((m:Int) * 2 ^ 8)=((m * 256:Nat):Int):=by rw [wrapU64];omega
  have e2:IntKind.u64.wrap (c:Int)=(c:Int):=by rw [wrapU64];omega
  rw [e1,e2]
  unfold bitop
  simp only
  show IntKind.u64.wrap ((BitVec.ofInt 64 ((m * 256:Nat):Int) ||| BitVec.ofInt 64 (c:Int)).toNat:Int)=_
  rw [BitVec.toNat_or,BitVec.ofInt_natCast,BitVec.ofInt_natCast,BitVec.toNat_ofNat,BitVec.toNat_ofNat,Nat.mod_eq_of_lt (by omega),Nat.mod_eq_of_lt (by omega)]
  have:m * 256 ||| c=m * 256+c:=by
    have:=Nat.shiftLeft_add_eq_or_of_lt (b:=c) (i:=8) (by omega) m
    rw [Nat.shiftLeft_eq] at this
    exact this.symm
  rw [this,wrapU64];omega
theorem kOf_le {h:Nat} (hh:h < 256):kOf h < 128:=by unfold kOf;split <;> omega
theorem flU_val {h:Nat} {c:UInt8}:((flU h c).toNat:Int)=bitop .xor .u8 (c.toNat:Int) (if h < 128 then 255 else 0):=by
  have hc:=c.toNat_lt
  unfold flU
  by_cases hh:h < 128
  · rw [if_pos hh,if_pos hh,xor8_255 _ (by omega),UInt8.toNat_ofNat'];omega
  · rw [if_neg hh,if_neg hh,xor8_0 _ (by omega)]
def flI (h:Nat):Int:=if h < 128 then 255 else 0
set_option maxHeartbeats 8000000 in
theorem f59 (b:List UInt8) (hb:b.length≤2 ^ 62) (cap:Option Nat) (hcap:CapOk cap b.length) :
    Fun Tryz.prog tS 96 [.slc 0 0 1 b.length cap] [(0,⟨.view,bys b⟩)] 1 (tup3 (decS b)) [] 1:=by
  refine fun_anyG none cF cF_ok ck96 (Nat.le_of_ble_eq_true rfl) (by decide) ?_
  conv in mkSF _ _=>(reduce;simp only [u8lit,UInt8.reduceOfNat,Int.reduceOfNat,Int.reduceNegSucc])
  rw [exG_mk]
  unfold tup3
  cases b with
  | nil=>
    have e0:bys ([]:List UInt8)=[]:=rfl
    simp (config:={ maxSteps:=1000000 }) only [reduceCtorEq,Nat.reduceEqDiff,↓reduceIte,BC,↓PC]
    exact ⟨[(0,0)],⟨rfl,by simp [compat,apartM,keysBelow,idHs,BB]⟩,rfl,rfl,rfl⟩
  | cons c r=>
    have hc:=c.toNat_lt
    have g0:(bys (c :: r))[0]?=some (.int .u8 (c.toNat:Int)):=get_bysI rfl
    have hne:((c :: r).length:Int)≠0:=by simp;omega
    have hl:(c :: r).length=r.length+1:=rfl
    have hk:=kOf_le hc
    have hkx:IntKind.i64.wrap (IntKind.i64.wrap (bitop .xor .u8 (c.toNat:Int) (flI c.toNat)) - 128)=(kOf c.toNat:Int):=by
      unfold flI kOf
      by_cases hh:c.toNat < 128
      · rw [if_pos hh,if_pos hh,xor8_255 _ (by omega),wrap64_eq (x:=255 - _) (by omega) (by omega),wrap64_eq (by omega) (by omega)];omega
      · rw [if_neg hh,if_neg hh,xor8_0 _ (by omega),wrap64_eq (x:=(c.toNat:Int)) (by omega) (by omega),wrap64_eq (by omega) (by omega)];omega
    have key:(((c.toNat:Int) < 128)∧flI c.toNat=255)∨(¬ ((c.toNat:Int) < 128)∧flI c.toNat=0):=by
      unfold flI
      by_cases hh:c.toNat < 128
      · left;exact ⟨by omega,if_pos hh⟩
      · right;exact ⟨by omega,if_neg hh⟩
    have hlen0:((r.length+1:Nat):Int)≠0:=by omega
    have hb0:(((r.length+1:Nat):Int) == 0)=false:=by simpa using hlen0
    have hl1:(0:Int) < ((r.length+1:Nat):Int):=by omega
    have hbl:=len_bytes (c :: r)
    rw [hl] at hbl
    rcases key with ⟨k1,k2⟩ | ⟨k1,k2⟩
    all_goals
      rw [k2] at hkx
      by_cases h8:kOf c.toNat > 8
      · have h8':(kOf c.toNat:Int) > 8:=by omega
        have hd:decS (c :: r)=(0,0,6):=by simp only [decS,h8,if_true]
        simp (config:={ maxSteps:=1000000 }) only [hl,hb0,hl1,hbl,g0,k1,hkx,h8',hd,Nat.zero_lt_succ,reduceCtorEq,Nat.reduceEqDiff,Int.reduceToNat,Int.reduceLE,↓reduceIte,BC,↓PC]
        exact ⟨[(0,0)],rfl,by simp [compat,apartM,keysBelow,idHs,BB]⟩
      have h8':¬ (kOf c.toNat:Int) > 8:=by omega
      by_cases hr:r.length < kOf c.toNat
      · have hr':((r.length+1:Nat):Int)≤(kOf c.toNat:Int):=by omega
        have hd:decS (c :: r)=(0,0,5):=by simp only [decS,h8,hr,if_true,if_false]
        simp (config:={ maxSteps:=1000000 }) only [hl,hb0,hl1,hbl,g0,k1,hkx,h8',hr',hd,Nat.zero_lt_succ,reduceCtorEq,Nat.reduceEqDiff,Int.reduceToNat,Int.reduceLE,↓reduceIte,BC,↓PC]
        exact ⟨[(0,0)],rfl,by simp [compat,apartM,keysBelow,idHs,BB]⟩
      have hr':¬ ((r.length+1:Nat):Int)≤(kOf c.toNat:Int):=by omega
      have hdec:decS (c :: r)=if ((r.take (kOf c.toNat)).map (flU c.toNat)).head?=some 0 then (0,0,6) else
          if valB ((r.take (kOf c.toNat)).map (flU c.toNat)) ≥ 9223372036854775808 then (0,0,6) else
          ((if c.toNat < 128 then -1 - (valB ((r.take (kOf c.toNat)).map (flU c.toNat)):Int) else (valB ((r.take (kOf c.toNat)).map (flU c.toNat)):Int)),kOf c.toNat+1,0):=by
        simp only [decS,h8,hr,if_false]
      have hfl:∀ y:UInt8,((flU c.toNat y).toNat:Int)=bitop .xor .u8 (y.toNat:Int) (flI c.toNat):=fun y=>flU_val
      rw [k2] at hfl
      generalize hK:kOf c.toNat=K at *
      generalize hD:(r.take K).map (flU c.toNat)=D at *
      have hDl:D.length=K:=by rw [← hD];simp;omega
      by_cases hz:D.head?=some 0
      · have hd:decS (c :: r)=(0,0,6):=by rw [hdec,if_pos hz]
        obtain ⟨y,hy,hy0⟩:∃ y,r[0]?=some y∧flU c.toNat y=0:=by
          rw [← hD] at hz
          cases r with
          | nil=>simp at hz
          | cons y r'=>
            cases K with
            | zero=>simp at hz
            | succ K=>simp at hz;exact ⟨y,rfl,hz⟩
        have hK0:(K:Int) > 0:=by
          cases K with
          | zero=>simp at hDl;rw [hDl] at hz;simp at hz
          | succ K=>omega
        have g1:(bys (c :: r))[1]?=some (.int .u8 (y.toNat:Int)):=get_bysI (by simpa using hy)
        have h0:=hfl y
        rw [hy0] at h0
        have h0:bitop .xor .u8 (y.toNat:Int) _=0:=h0.symm
        have hl2:(1:Int) < ((r.length+1:Nat):Int):=by omega
        have hl3:1 < r.length+1:=by omega
        simp (config:={ maxSteps:=1000000 }) only [hl,hb0,hl1,hl2,hl3,hbl,g0,g1,h0,k1,hkx,h8',hr',hK0,hd,Nat.zero_lt_succ,reduceCtorEq,Nat.reduceEqDiff,Int.reduceToNat,Int.reduceLE,↓reduceIte,BC,↓PC]
        exact ⟨[(0,0)],rfl,by simp [compat,apartM,keysBelow,idHs,BB]⟩
      have wK:IntKind.i64.wrap ((K:Int)+1)=((K+1:Nat):Int):=by rw [wrap64_eq (by omega) (by omega)];omega
      by_cases hK0:(K:Int) > 0
      case' pos=>
        obtain ⟨y,hy⟩:∃ y,r[0]?=some y:=⟨_,List.getElem?_eq_getElem (by omega)⟩
        have g1:(bys (c :: r))[1]?=some (.int .u8 (y.toNat:Int)):=get_bysI (by simpa using hy)
        have hhd:D.head?=some (flU c.toNat y):=by
          rw [← hD]
          cases r with
          | nil=>simp at hy
          | cons y' r'=>
            simp at hy
            obtain ⟨K',rfl⟩:∃ K',K=K'+1:=⟨K - 1,by omega⟩
            rw [← hy];simp
        have h0:(bitop .xor .u8 (y.toNat:Int) (flI c.toNat) == 0)=false:=by
          rw [beq_eq_false_iff_ne,k2,← hfl y]
          intro h
          apply hz
          rw [hhd]
          congr 1
          exact UInt8.toNat_inj.1 (by simpa using h)
        rw [k2] at h0
        have hl2:(1:Int) < ((r.length+1:Nat):Int):=by omega
        have hl3:1 < r.length+1:=by omega
        simp (config:={ maxSteps:=1000000 }) only [hl,hb0,hl1,hl2,hl3,hbl,g0,g1,h0,k1,hkx,h8',hr',hK0,wK,Nat.add_sub_cancel,Nat.zero_lt_succ,reduceCtorEq,Nat.reduceEqDiff,Int.reduceToNat,Int.reduceLE,↓reduceIte,BC,↓PC]
        refine ⟨by cases cap with
          | none=>trivial
          | some q=>exact hcap q rfl,by omega,by omega,?_⟩
      case' neg=>
        simp (config:={ maxSteps:=1000000 }) only [hl,hb0,hl1,hbl,g0,k1,hkx,h8',hr',hK0,wK,Nat.add_sub_cancel,Nat.zero_lt_succ,undef,reduceCtorEq,Nat.reduceEqDiff,Int.reduceToNat,Int.reduceLE,↓reduceIte,BC,↓PC]
        refine ⟨by cases cap with
          | none=>trivial
          | some q=>exact hcap q rfl,by omega,by omega,?_⟩
      all_goals
        rw [den_loop]
        refine den_inv cF_ok (σ:=Nat) (fun i=>[(48,.int .i64 (i:Int)),(47,.int .i64 (K:Int)),(46,.slc 0 1 1 K (cap.map (fun x=>x - 1))),(7,.int .u64 (valB (D.take i):Int)),(6,.int .i64 (K:Int)),(5,.int .u8 (flI c.toNat))])
          (fun _=>[(0,⟨.view,bys (c :: r)⟩)]) (fun _=>1) (fun i=>i≤K) (fun i=>K - i) 0 ⟨[(0,0)],by simp [↓reduceIte,BC],by simp [k2,valB,Nat.reduceEqDiff,↓reduceIte,BC]⟩ (Nat.zero_le _) ?_
        intro i hi
        rw [k2]
        by_cases hiK:i < K
        · have d1:(i:Int) < (K:Int):=by omega
          have d2:(0:Int)≤(i:Int):=by omega
          have wi:IntKind.i64.wrap ((i:Int)+1)=((i+1:Nat):Int):=by rw [wrap64_eq (by omega) (by omega)];omega
          obtain ⟨y,hy⟩:∃ y,r[i]?=some y:=⟨_,List.getElem?_eq_getElem (by omega)⟩
          have gy:(bys (c :: r))[1+i]?=some (.int .u8 (y.toNat:Int)):=get_bysI (by rw [Nat.add_comm,List.getElem?_cons_succ];exact hy)
          have hDi:D[i]?=some (flU c.toNat y):=by
            rw [← hD,List.getElem?_map,List.getElem?_take_of_lt hiK,hy];rfl
          have hv:valB (D.take (i+1))=valB (D.take i) * 256+(flU c.toNat y).toNat:=by
            rw [List.take_add_one,hDi];exact valB_snoc _ _
          have hlt:valB (D.take i) < 72057594037927936:=by
            have h1:=valB_lt (D.take i)
            have h2:256 ^ (D.take i).length≤256 ^ 7:=Nat.pow_le_pow_right (by decide) (by simp;omega)
            have h3:(256:Nat) ^ 7=72057594037927936:=by decide
            omega
          have hor:=or_byte hlt (flU c.toNat y).toNat_lt
          rw [hfl y,← hv] at hor
          have q1:1+i < r.length+1:=by omega
          simp (config:={ maxSteps:=1000000 }) only [hbl,gy,d1,d2,q1,wi,hor,Nat.reduceEqDiff,Int.reduceToNat,Int.reduceLE,↓reduceIte,BC,↓PC]
          exact ⟨i+1,⟨[(0,0)],by simp [↓reduceIte,BC],by simp [Nat.reduceEqDiff,↓reduceIte,BC]⟩,by omega,by omega⟩
        · obtain rfl:i=K:=by omega
          have d1:¬ (i:Int) < (i:Int):=by omega
          rw [show D.take i=D from List.take_of_length_le (by omega)]
          simp (config:={ maxSteps:=1000000 }) only [d1,Int.reduceGT,Nat.reduceEqDiff,Int.reduceToNat,Int.reduceLE,Int.reduceNeg,↓reduceIte,BC,↓PC]
          have hm:=valB_lt D
          have hm8:valB D < 18446744073709551616:=by
            have h2:256 ^ D.length≤256 ^ 8:=Nat.pow_le_pow_right (by decide) (by omega)
            have h3:(256:Nat) ^ 8=18446744073709551616:=by decide
            omega
          have e63:min 63 IntKind.u64.bits=63:=by decide
          have hsh:((valB D:Int).fdiv (2 ^ min 63 IntKind.u64.bits) > 0)↔valB D ≥ 9223372036854775808:=by
            rw [e63]
            have:((valB D:Int)).fdiv (2 ^ 63)=((valB D / 9223372036854775808:Nat):Int):=(Int.ofNat_fdiv _ _).symm
            rw [this]
            omega
          constructor
          · intro h1
            have h1:=hsh.1 (of_decide_eq_true h1)
            have hd:decS (c :: r)=(0,0,6):=by rw [hdec,if_neg hz,if_pos h1]
            rw [hd]
            exact ⟨[(0,0)],⟨rfl,by simp [compat,apartM,keysBelow,idHs,BB]⟩,rfl,rfl,rfl⟩
          · intro h1
            have h1:¬ valB D ≥ 9223372036854775808:=fun h=>of_decide_eq_false h1 (hsh.2 h)
            refine ⟨[(0,0)],⟨rfl,by simp [compat,apartM,keysBelow,idHs,BB]⟩,?_⟩
            rw [hdec,if_neg hz,if_neg h1]
            first
              | (rw [if_pos (show c.toNat < 128 by omega),xor_max64]
                 exact ⟨by rw [IntKind.wrap];simp [IntKind.bits,IntKind.signed];omega,wK,rfl⟩)
              | (rw [if_neg (show ¬ c.toNat < 128 by omega)]
                 exact ⟨wrap64_eq (by omega) (by omega),wK,rfl⟩)
def gGetInt:GS
  | [.slc 0 0 1 len cap],[(0,⟨.view,cells⟩)]=>match unB cells with
    | some b=>if len=b.length∧b.length≤2 ^ 40 then (match capB cap b.length with
      | true=>some (tup3 (decS b),[],1)
      | false=>none) else none
    | none=>none
  | _,_=>none
theorem gGetInt_ok:FunS Tryz.prog tS 96 gGetInt:=by
  intro a0 m0 r m1 n1 h
  unfold gGetInt at h
  split at h
  · split at h
    · rename_i b hb
      split at h
      · rename_i hc
        split at h
        · rename_i hcap
          cases h
          obtain ⟨rfl,h1⟩:=hc
          rw [unB_some hb]
          exact ⟨f59 b (by omega) _ (capB_ok hcap),by simp [freshB]⟩
        · cases h
      · cases h
    · cases h
  · cases h
end Go.Proofs.YtmhkkalbijbplaaGreatDoor

/- The plain law of reading an integer. -/
namespace Go.Proofs.YtmhkkalbijbplaaGreatDoor
open Go Go.Sx
set_option maxRecDepth 100000
set_option linter.unusedSimpArgs false
set_option linter.unusedVariables false
def valR:List UInt8→Nat
  | []=>0
  | c :: l=>valR l * 256+c.toNat
theorem valB_R (l:List UInt8):valB l=valR l.reverse:=by
  unfold valB
  rw [List.foldl_eq_foldr_reverse]
  generalize l.reverse=q
  induction q with
  | nil=>rfl
  | cons c q ih=>simp only [List.foldr_cons,valR,ih]
theorem valR_byN:∀ (l:List UInt8) (j:Nat) (c:UInt8),l[j]?=some c→byN (valR l) j=c.toNat
  | [],j,c,h=>by simp at h
  | x :: l,0,c,h=>by
    simp at h;subst h
    have:=x.toNat_lt
    simp only [valR,byN,Nat.pow_zero,Nat.div_one];omega
  | x :: l,j+1,c,h=>by
    have hx:=x.toNat_lt
    rw [byN_succ,show valR (x :: l) / 256=valR l by simp only [valR];omega]
    exact valR_byN l j c (by simpa using h)
theorem valB_byN {l:List UInt8} {i:Nat} {c:UInt8} (hi:l[i]?=some c):byN (valB l) (l.length - 1 - i)=c.toNat:=by
  have hl:i < l.length:=(List.getElem?_eq_some_iff.1 hi).1
  rw [valB_R]
  apply valR_byN
  rw [List.getElem?_reverse (by omega)]
  rw [show l.length - 1 - (l.length - 1 - i)=i by omega]
  exact hi
theorem valB_top {c:UInt8} {l:List UInt8} (h:c≠0):256 ^ l.length≤valB (c :: l):=by
  have hf:∀ (l:List UInt8) (a:Nat),a * 256 ^ l.length≤l.foldl (fun a c=>a * 256+c.toNat) a:=by
    intro l
    induction l with
    | nil=>intro a;simp
    | cons x l ih=>
      intro a
      have:=ih (a * 256+x.toNat)
      simp only [List.foldl_cons,List.length_cons,Nat.pow_succ]
      have h1:a * (256 ^ l.length * 256)≤(a * 256+x.toNat) * 256 ^ l.length:=by
        rw [Nat.mul_comm (256 ^ l.length) 256,← Nat.mul_assoc];exact Nat.mul_le_mul_right _ (by omega)
      omega
  have h0:1≤c.toNat:=by
    rcases Nat.eq_zero_or_pos c.toNat with h1 | h1
    · exact absurd (UInt8.toNat_inj.1 (by simpa using h1)) h
    · exact h1
  unfold valB
  simp only [List.foldl_cons,Nat.zero_mul,Nat.zero_add]
  have:=hf l c.toNat
  have h1:1 * 256 ^ l.length≤c.toNat * 256 ^ l.length:=Nat.mul_le_mul_right _ h0
  omega
theorem valB_top0 {l:List UInt8}:valB (0 :: l) < 256 ^ l.length:=by
  have:=fold_lt l 0
  unfold valB
  simp only [List.foldl_cons]
  simpa using this

def numS (c:UInt8) (D:List UInt8):Int:=if c.toNat < 128 then -1 - (valB D:Int) else (valB D:Int)
theorem numS_facts {c:UInt8} {D:List UInt8} (h:valB D < 9223372036854775808):R64 (numS c D)∧magN (numS c D)=valB D∧(numS c D < 0↔c.toNat < 128):=by
  unfold numS magN R64
  by_cases hc:c.toNat < 128
  · simp only [hc,if_true]
    rw [if_pos (by omega)]
    exact ⟨by omega,by omega,by simp;omega⟩
  · simp only [hc,if_false]
    rw [if_neg (by omega)]
    exact ⟨by omega,by omega,by simp⟩
theorem flU_inv {h:Nat} {y:UInt8}:UInt8.ofNat (if h < 128 then 255 - (flU h y).toNat else (flU h y).toNat)=y:=by
  have hy:=y.toNat_lt
  apply UInt8.toNat_inj.1
  unfold flU
  by_cases hh:h < 128
  · simp only [hh,if_true,UInt8.toNat_ofNat'];omega
  · simp only [hh,if_false,UInt8.toNat_ofNat'];omega
theorem enc_of_dec {c:UInt8} {r:List UInt8} (h8:kOf c.toNat≤8) (hr:kOf c.toNat≤r.length) (hz:((r.take (kOf c.toNat)).map (flU c.toNat)).head?≠some 0)
    (hv:valB ((r.take (kOf c.toNat)).map (flU c.toNat)) < 9223372036854775808):encI (numS c ((r.take (kOf c.toNat)).map (flU c.toNat)))=c :: r.take (kOf c.toNat):=by
  obtain ⟨hn,hm,hs⟩:=numS_facts (c:=c) hv
  obtain ⟨K,h1,h2,h3,h4⟩:=encI_form' hn
  rw [h4]
  rw [hm] at h2 h3
  have hcl:=c.toNat_lt
  generalize hk:kOf c.toNat=k at *
  generalize hD:(r.take k).map (flU c.toNat)=D at *
  have hDl:D.length=k:=by rw [← hD];simp;omega
  have hK:K=k:=by
    have hlt:=valB_lt D
    rw [hDl] at hlt
    cases D with
    | nil=>
      simp at hDl
      rcases h3 with h3 | h3
      · omega
      · have:0 < 256 ^ (K - 1):=Nat.pow_pos (by decide)
        simp [valB] at h3
    | cons d D=>
      have hd:d≠0:=by intro h;apply hz;simp [h]
      have htop:=valB_top (l:=D) hd
      simp at hDl
      rcases Nat.lt_trichotomy K k with hlt2 | rfl | hgt
      · have:256 ^ K≤256 ^ D.length:=Nat.pow_le_pow_right (by decide) (by omega)
        omega
      · rfl
      · rcases h3 with h3 | h3
        · omega
        · have:256 ^ k≤256 ^ (K - 1):=Nat.pow_le_pow_right (by decide) (by omega)
          omega
  subst hK
  congr 1
  · apply UInt8.toNat_inj.1
    have hkk:kOf c.toNat=K:=hk
    unfold kOf at hkk
    by_cases hc:c.toNat < 128
    · rw [if_pos (hs.2 hc),UInt8.toNat_ofNat']
      rw [if_pos hc] at hkk;omega
    · rw [if_neg (fun h=>hc (hs.1 h)),UInt8.toNat_ofNat']
      rw [if_neg hc] at hkk;omega
  · apply List.ext_getElem?
    intro i
    by_cases hi:i < K
    · obtain ⟨y,hy⟩:∃ y,r[i]?=some y:=⟨_,List.getElem?_eq_getElem (by omega)⟩
      have hDi:D[i]?=some (flU c.toNat y):=by
        rw [← hD,List.getElem?_map,List.getElem?_take_of_lt hi,hy];rfl
      have hb:=valB_byN hDi
      rw [hDl] at hb
      rw [List.getElem?_take_of_lt hi,hy,List.getElem?_map,List.getElem?_reverse (by simpa using hi),List.length_range,List.getElem?_range (by omega)]
      simp only [Option.map_some,Option.some.injEq]
      rw [hm,hb]
      have:=flU_inv (h:=c.toNat) (y:=y)
      by_cases hc:c.toNat < 128
      · rw [if_pos (hs.2 hc)];rw [if_pos hc] at this;exact this
      · rw [if_neg (fun h=>hc (hs.1 h))];rw [if_neg hc] at this;exact this
    · rw [List.getElem?_eq_none (by simp;omega),List.getElem?_eq_none (by simp;omega)]
theorem enc_of_zero {c:UInt8} {D:List UInt8} (hz:D.head?=some 0) (hv:valB D < 9223372036854775808):(encI (numS c D)).length≠D.length+1:=by
  obtain ⟨hn,hm,hs⟩:=numS_facts (c:=c) hv
  obtain ⟨K,h1,h2,h3,h4⟩:=encI_form' hn
  rw [h4]
  rw [hm] at h3
  cases D with
  | nil=>simp at hz
  | cons d D=>
    simp at hz
    subst hz
    have htop:=valB_top0 (l:=D)
    simp only [List.length_cons,List.length_map,List.length_reverse,List.length_range]
    intro he
    rcases h3 with h3 | h3
    · omega
    · rw [show K - 1=D.length by omega] at h3;omega
theorem dec_enc {n:Int} (h:R64 n) (q:List UInt8):decS (encI n++q)=(n,(encI n).length,0):=by
  obtain ⟨K,h1,h2,h3,h4⟩:=encI_form' h
  have hm:=magN_lt h
  rw [h4,List.cons_append]
  generalize hT:(List.range K).reverse.map (fun j=>UInt8.ofNat (if n < 0 then 255 - byN (magN n) j else byN (magN n) j))=T at *
  have hTl:T.length=K:=by rw [← hT];simp
  generalize hc:UInt8.ofNat (if n < 0 then 127 - K else 128+K)=c at *
  have hcv:c.toNat=if n < 0 then 127 - K else 128+K:=by
    rw [← hc,UInt8.toNat_ofNat'];split <;> omega
  have hk:kOf c.toNat=K:=by
    rw [hcv];unfold kOf
    by_cases hn:n < 0
    · rw [if_pos hn,if_pos (by omega)];omega
    · rw [if_neg hn,if_neg (by omega)];omega
  have hsg:c.toNat < 128↔n < 0:=by
    rw [hcv]
    by_cases hn:n < 0
    · rw [if_pos hn];exact ⟨fun _=>hn,fun _=>by omega⟩
    · rw [if_neg hn];exact ⟨fun h=>by omega,fun h=>absurd h hn⟩
  have htake:(T++q).take K=T:=List.take_left' hTl
  have hDi:∀ i,i < K→(T.map (flU c.toNat))[i]?=some (UInt8.ofNat (byN (magN n) (K - 1 - i))):=by
    intro i hi
    rw [← hT,List.map_map,List.getElem?_map,List.getElem?_reverse (by simpa using hi),List.length_range,List.getElem?_range (by omega)]
    simp only [Option.map_some,Function.comp,Option.some.injEq]
    have hb:=byN_lt (magN n) (K - 1 - i)
    unfold flU
    apply UInt8.toNat_inj.1
    by_cases hn:n < 0
    · rw [if_pos (hsg.2 hn),if_pos hn]
      simp only [UInt8.toNat_ofNat'];omega
    · rw [if_neg (fun h=>hn (hsg.1 h)),if_neg hn]
  have hDl:(T.map (flU c.toNat)).length=K:=by simp [hTl]
  have hv:valB (T.map (flU c.toNat))=magN n:=by
    have hlt:=valB_lt (T.map (flU c.toNat))
    rw [hDl] at hlt
    refine byN_inj K _ _ hlt h2 fun j hj=>?_
    have:=valB_byN (hDi (K - 1 - j) (by omega))
    rw [hDl,show K - 1 - (K - 1 - j)=j by omega,UInt8.toNat_ofNat'] at this
    have hb:=byN_lt (magN n) j
    omega
  have hz:(T.map (flU c.toNat)).head?≠some 0:=by
    intro hz
    have hK0:0 < K:=by
      rcases Nat.eq_zero_or_pos K with h0 | h0
      · rw [List.length_eq_zero_iff.1 (hDl.trans h0)] at hz;simp at hz
      · exact h0
    have h0:=hDi 0 hK0
    rw [← List.head?_eq_getElem?,hz] at h0
    have hb:=byN_lt (magN n) (K - 1 - 0)
    have:=congrArg UInt8.toNat (Option.some.inj h0)
    rw [UInt8.toNat_ofNat'] at this
    have hb0:byN (magN n) (K - 1)=0:=by
      have e0:(0:UInt8).toNat=0:=rfl
      rw [e0,Nat.sub_zero] at this
      have hb':=byN_lt (magN n) (K - 1)
      omega
    rcases h3 with h3 | h3
    · omega
    · unfold byN at hb0
      have h5:0 < magN n / 256 ^ (K - 1):=Nat.div_pos h3 (Nat.pow_pos (by decide))
      have h6:magN n / 256 ^ (K - 1) < 256:=by
        rw [Nat.div_lt_iff_lt_mul (Nat.pow_pos (by decide)),Nat.mul_comm,← Nat.pow_succ,show (K - 1).succ=K by omega];exact h2
      omega
  simp only [decS,hk,htake]
  rw [if_neg (by omega),if_neg (by simp [hTl]),if_neg hz,hv,if_neg (by omega)]
  simp only [List.length_cons,hTl,Prod.mk.injEq,and_true]
  unfold magN R64 at *
  by_cases hn:n < 0
  · rw [if_pos (hsg.2 hn),if_pos hn];omega
  · rw [if_neg (fun h=>hn (hsg.1 h)),if_neg hn];omega
theorem enc_dec {b:List UInt8} {n:Int} {u:Nat} (h:decS b=(n,u,0)):R64 n∧u≤b.length∧b.take u=encI n:=by
  unfold decS at h
  split at h
  · simp at h
  · rename_i c r
    split at h
    · simp at h
    · split at h
      · simp at h
      · split at h
        · simp at h
        · split at h
          · simp at h
          · rename_i h1 h2 h3 h4
            simp only [Prod.mk.injEq,and_true] at h
            obtain ⟨h5,rfl⟩:=h
            have hn:n=numS c ((r.take (kOf c.toNat)).map (flU c.toNat)):=h5.symm
            rw [hn,enc_of_dec (by omega) (by omega) h3 (by omega)]
            exact ⟨(numS_facts (by omega)).1,by simp;omega,by simp⟩
end Go.Proofs.YtmhkkalbijbplaaGreatDoor

/- The reference's reading of an integer. -/
namespace Go.Proofs.YtmhkkalbijbplaaGreatDoor
open Go Go.Sx
set_option maxRecDepth 100000
set_option linter.unusedVariables false
variable {tS:List (Nat × List SV)}
theorem f72 (a b:List UInt8) (ha:a.length≤2 ^ 62) (cap cap':Option Nat) :
    Fun Tryz.prog tS 140 [.slc 0 0 1 a.length cap,.slc 1 0 1 b.length cap'] [(0,⟨.view,bys a⟩),(1,⟨.view,bys b⟩)] 2 (.bool (a == b)) [] 2:=by
  refine fun_anyG none cF cF_ok ck140 (Nat.le_of_ble_eq_true rfl) (by decide) ?_
  conv in mkSF _ _=>(reduce;simp only [u8lit,UInt8.reduceOfNat,Int.reduceOfNat,Int.reduceNegSucc])
  rw [exG_mk]
  have hla:=len_bytes a
  have hlb:=len_bytes b
  by_cases hl:a.length=b.length
  · have e0:((a.length:Int) != (b.length:Int))=false:=by simp [hl]
    simp (config:={ maxSteps:=1000000 }) only [e0,reduceCtorEq,Nat.reduceEqDiff,↓reduceIte,BC,↓PC]
    rw [den_loop]
    refine den_inv cF_ok (σ:=Nat) (fun i=>[(5,.int .i64 (i:Int)),(1,.slc 1 0 1 b.length cap'),(0,.slc 0 0 1 a.length cap)])
      (fun _=>[(0,⟨.view,bys a⟩),(1,⟨.view,bys b⟩)]) (fun _=>2) (fun i=>i≤a.length∧a.take i=b.take i) (fun i=>a.length - i) 0 ⟨[(0,0),(1,0)],by simp [Nat.reduceAdd,Nat.reduceLeDiff,↓reduceIte,BC],by simp [Nat.reduceAdd,Nat.reduceEqDiff,Nat.reduceLeDiff,↓reduceIte,reduceCtorEq,BC]⟩ ⟨Nat.zero_le _,rfl⟩ ?_
    rintro i ⟨hi,he⟩
    by_cases h:i < a.length
    · have c1:(i:Int) < (a.length:Int):=by omega
      have c1':(i:Int) < (b.length:Int):=by omega
      have c2:(0:Int)≤(i:Int):=by omega
      have h':i < b.length:=by omega
      have wi:IntKind.i64.wrap ((i:Int)+1)=((i+1:Nat):Int):=by rw [wrap64_eq (by omega) (by omega)];omega
      obtain ⟨x,hx⟩:∃ x,a[i]?=some x:=⟨_,List.getElem?_eq_getElem h⟩
      obtain ⟨y,hy⟩:∃ y,b[i]?=some y:=⟨_,List.getElem?_eq_getElem h'⟩
      have gx:=get_bysI hx
      have gy:=get_bysI hy
      by_cases hxy:x=y
      · subst hxy
        have e1:((x.toNat:Int) != (x.toNat:Int))=false:=by simp
        simp (config:={ maxSteps:=1000000 }) only [c1,c1',c2,h,h',wi,gx,gy,e1,reduceCtorEq,Nat.reduceEqDiff,↓reduceIte,BC,↓PC]
        exact ⟨i+1,⟨[(0,0),(1,0)],by simp [Nat.reduceAdd,Nat.reduceLeDiff,↓reduceIte,BC],by simp [Nat.reduceAdd,Nat.reduceEqDiff,Nat.reduceLeDiff,↓reduceIte,reduceCtorEq,BC]⟩,⟨by omega,by rw [List.take_add_one,List.take_add_one,he,hx,hy]⟩,by omega⟩
      · have e1:((x.toNat:Int) != (y.toNat:Int))=true:=by
          rw [bne_iff_ne]
          intro h
          exact hxy (UInt8.toNat_inj.1 (by omega))
        have hf:(a == b)=false:=by
          rw [beq_eq_false_iff_ne]
          rintro rfl
          rw [hx] at hy
          exact hxy (Option.some.inj hy)
        simp (config:={ maxSteps:=1000000 }) only [c1,c1',c2,h,h',gx,gy,e1,hf,reduceCtorEq,Nat.reduceEqDiff,↓reduceIte,BC,↓PC]
        exact ⟨[(0,0),(1,0)],rfl,by simp [compat,apartM,keysBelow,idHs,BB]⟩
    · obtain rfl:i=a.length:=by omega
      have c1:¬ (a.length:Int) < (a.length:Int):=by omega
      have hf:(a == b)=true:=by
        rw [List.take_length,hl,List.take_length] at he
        rw [he];simp
      simp (config:={ maxSteps:=1000000 }) only [c1,hf,reduceCtorEq,Nat.reduceEqDiff,↓reduceIte,BC,↓PC]
      exact ⟨[(0,0),(1,0)],rfl,by simp [compat,apartM,keysBelow,idHs,BB]⟩
  · have e0:((a.length:Int) != (b.length:Int))=true:=by simp;omega
    have hf:(a == b)=false:=by
      rw [beq_eq_false_iff_ne]
      rintro rfl
      exact hl rfl
    simp (config:={ maxSteps:=1000000 }) only [e0,hf,reduceCtorEq,Nat.reduceEqDiff,↓reduceIte,BC,↓PC]
    exact ⟨[(0,0),(1,0)],rfl,by simp [compat,apartM,keysBelow,idHs,BB]⟩
theorem valB_app (a b:List UInt8):valB a * 256 ^ b.length≤valB (a++b):=by
  have hf:∀ (l:List UInt8) (a:Nat),a * 256 ^ l.length≤l.foldl (fun a c=>a * 256+c.toNat) a:=by
    intro l
    induction l with
    | nil=>intro a;simp
    | cons x l ih=>
      intro a
      have:=ih (a * 256+x.toNat)
      simp only [List.foldl_cons,List.length_cons,Nat.pow_succ]
      have h1:a * (256 ^ l.length * 256)≤(a * 256+x.toNat) * 256 ^ l.length:=by
        rw [Nat.mul_comm (256 ^ l.length) 256,← Nat.mul_assoc];exact Nat.mul_le_mul_right _ (by omega)
      omega
  have:=hf b (valB a)
  unfold valB at *
  rw [List.foldl_append];exact this
def gSame:GS
  | [.slc 0 0 1 len _,.slc 1 0 1 len' _],[(0,⟨.view,cells⟩),(1,⟨.view,cells'⟩)]=>match unB cells,unB cells' with
    | some a,some b=>if len=a.length∧len'=b.length∧a.length≤2 ^ 40 then some (.bool (a == b),[],2) else none
    | _,_=>none
  | _,_=>none
theorem gSame_ok:FunS Tryz.prog tS 140 gSame:=by
  intro a0 m0 r m1 n1 h
  unfold gSame at h
  split at h
  · split at h
    · rename_i a b ha hb
      split at h
      · rename_i hc
        obtain ⟨rfl,rfl,h1⟩:=hc
        cases h
        rw [unB_some ha,unB_some hb]
        exact ⟨f72 a b (by omega) _ _,by simp [freshB]⟩
      · cases h
    · cases h
  · cases h
def tabP:List (FuncId × GS):=[(49,gIntR),(140,gSame)]
theorem tabP_ok:∀ x ∈ tabP,FunS Tryz.prog tS x.1 x.2:=by
  intro x hx
  simp only [tabP,List.mem_cons,List.not_mem_nil,or_false] at hx
  rcases hx with rfl | rfl
  · exact gIntR_ok
  · exact gSame_ok
set_option maxHeartbeats 8000000 in
theorem f50 (b:List UInt8) (hb:b.length≤2 ^ 40) (cap:Option Nat) (hcap:CapOk cap b.length) :
    Fun Tryz.prog tS 103 [.slc 0 0 1 b.length cap] [(0,⟨.view,bys b⟩)] 1 (tup3 (decS b)) [] 1:=by
  refine fun_anyG none (callS tabP cF) (callS_ok tabP_ok cF_ok) ck103 (Nat.le_of_ble_eq_true rfl) (by decide) ?_
  conv in mkSF _ _=>(reduce;simp only [u8lit,UInt8.reduceOfNat,Int.reduceOfNat,Int.reduceNegSucc])
  rw [exG_mk]
  unfold tup3
  cases b with
  | nil=>
    have e0:bys ([]:List UInt8)=[]:=rfl
    simp (config:={ maxSteps:=1000000 }) only [reduceCtorEq,Nat.reduceEqDiff,Int.reduceNeg,↓reduceIte,BC,↓PC]
    exact ⟨[(0,0)],⟨rfl,by simp [compat,apartM,keysBelow,idHs,BB]⟩,rfl,rfl,rfl⟩
  | cons c r=>
    have hc:=c.toNat_lt
    have g0:(bys (c :: r))[0]?=some (.int .u8 (c.toNat:Int)):=get_bysI rfl
    have hl:(c :: r).length=r.length+1:=rfl
    have hb0:(((r.length+1:Nat):Int) == 0)=false:=by simp;omega
    have hl1:(0:Int) < ((r.length+1:Nat):Int):=by omega
    have hbl:=len_bytes (c :: r)
    rw [hl] at hbl hb hcap
    have wc:IntKind.i64.wrap (c.toNat:Int)=(c.toNat:Int):=wrap64_eq (by omega) (by omega)
    by_cases h119:(c.toNat:Int) < 119
    · have hd:decS (c :: r)=(0,0,6):=by simp only [decS];rw [if_pos];unfold kOf;split <;> omega
      simp (config:={ maxSteps:=1000000 }) only [hl,hb0,hl1,hbl,g0,wc,h119,hd,Nat.zero_lt_succ,undef,reduceCtorEq,Nat.reduceEqDiff,Int.reduceToNat,Int.reduceLE,Int.reduceNeg,↓reduceIte,BC,↓PC]
      exact ⟨[(0,0)],rfl,by simp [compat,apartM,keysBelow,idHs,BB]⟩
    by_cases h136:(c.toNat:Int) > 136
    · have hd:decS (c :: r)=(0,0,6):=by simp only [decS];rw [if_pos];unfold kOf;split <;> omega
      simp (config:={ maxSteps:=1000000 }) only [hl,hb0,hl1,hbl,g0,wc,h119,h136,hd,Nat.zero_lt_succ,reduceCtorEq,Nat.reduceEqDiff,Int.reduceToNat,Int.reduceLE,Int.reduceNeg,↓reduceIte,BC,↓PC]
      exact ⟨[(0,0)],rfl,by simp [compat,apartM,keysBelow,idHs,BB]⟩
    have h8:kOf c.toNat≤8:=by unfold kOf;split <;> omega
    have key:(((c.toNat:Int) < 128)∧IntKind.i64.wrap (127 - (c.toNat:Int))=(kOf c.toNat:Int)∧c.toNat < 128)∨(¬ ((c.toNat:Int) < 128)∧IntKind.i64.wrap ((c.toNat:Int) - 128)=(kOf c.toNat:Int)∧¬ c.toNat < 128):=by
      unfold kOf
      by_cases hh:c.toNat < 128
      · left;rw [if_pos hh];exact ⟨by omega,by rw [wrap64_eq (by omega) (by omega)];omega,hh⟩
      · right;rw [if_neg hh];exact ⟨by omega,by rw [wrap64_eq (by omega) (by omega)];omega,hh⟩
    have wK:IntKind.i64.wrap ((kOf c.toNat:Int)+1)=((kOf c.toNat+1:Nat):Int):=by rw [wrap64_eq (by omega) (by omega)];omega
    have wx:IntKind.i64.wrap ((c.toNat:Int) - 128)=(c.toNat:Int) - 128:=wrap64_eq (by omega) (by omega)
    rcases key with ⟨k1,k2,k3⟩ | ⟨k1,k2,k3⟩
    all_goals
      by_cases hr:r.length < kOf c.toNat
      · have hr':((r.length+1:Nat):Int) < ((kOf c.toNat+1:Nat):Int):=by omega
        have hd:decS (c :: r)=(0,0,5):=by simp only [decS];rw [if_neg (by omega),if_pos hr]
        simp (config:={ maxSteps:=1000000 }) only [hl,hb0,hl1,hbl,g0,wc,h119,h136,k1,k2,wK,hr',hd,Nat.zero_lt_succ,reduceCtorEq,Nat.reduceEqDiff,Int.reduceToNat,Int.reduceLE,Int.reduceNeg,↓reduceIte,BC,↓PC]
        exact ⟨[(0,0)],rfl,by simp [compat,apartM,keysBelow,idHs,BB]⟩
      have hr':¬ ((r.length+1:Nat):Int) < ((kOf c.toNat+1:Nat):Int):=by omega
      simp (config:={ maxSteps:=1000000 }) only [hl,hb0,hl1,hbl,g0,wc,h119,h136,k1,k2,wK,hr',Nat.zero_lt_succ,reduceCtorEq,Nat.reduceEqDiff,Int.reduceToNat,Int.reduceLE,Int.reduceNeg,↓reduceIte,BC,↓PC]
      rw [den_loop]
      have hk8:=h8
      generalize hK:kOf c.toNat=K at *
      generalize hD:(r.take K).map (flU c.toNat)=D at *
      have hDl:D.length=K:=by rw [← hD];simp;omega
      have hdec:decS (c :: r)=if D.head?=some 0 then (0,0,6) else if valB D ≥ 9223372036854775808 then (0,0,6) else (numS c D,K+1,0):=by
        simp only [decS,hK,hD]
        rw [if_neg (by omega),if_neg hr];rfl
      refine den_inv (callS_ok tabP_ok cF_ok) (σ:=Nat) (fun i=>[(8,.int .i64 ((i+1:Nat):Int)),(7,.int .i64 (valB (D.take i):Int)),(6,.int .i64 (K:Int)),(5,.int .i64 (c.toNat:Int)),(0,.slc 0 0 1 (r.length+1) cap)])
        (fun _=>[(0,⟨.view,bys (c :: r)⟩)]) (fun _=>1) (fun i=>i≤K∧valB (D.take i) < 9223372036854775808) (fun i=>K - i) 0 ⟨[(0,0)],by simp [↓reduceIte,BC],by simp [valB,Nat.reduceEqDiff,↓reduceIte,reduceCtorEq,BC]⟩ ⟨Nat.zero_le _,by simp [valB]⟩ ?_
      rintro i ⟨hi,hlt⟩
      by_cases hiK:i < K
      · have d1:((i+1:Nat):Int)≤(K:Int):=by omega
        have d2:(0:Int)≤((i+1:Nat):Int):=by omega
        have d3:((i+1:Nat):Int) < ((r.length+1:Nat):Int):=by omega
        have wi:IntKind.i64.wrap (((i+1:Nat):Int)+1)=((i+1+1:Nat):Int):=by rw [wrap64_eq (by omega) (by omega)];omega
        obtain ⟨y,hy⟩:∃ y,r[i]?=some y:=⟨_,List.getElem?_eq_getElem (by omega)⟩
        have hyl:=y.toNat_lt
        have gy:(bys (c :: r))[i+1]?=some (.int .u8 (y.toNat:Int)):=get_bysI (by rw [List.getElem?_cons_succ];exact hy)
        have wy:IntKind.i64.wrap (y.toNat:Int)=(y.toNat:Int):=wrap64_eq (by omega) (by omega)
        have wy2:IntKind.i64.wrap (255 - (y.toNat:Int))=255 - (y.toNat:Int):=wrap64_eq (by omega) (by omega)
        have hDi:D[i]?=some (flU c.toNat y):=by
          rw [← hD,List.getElem?_map,List.getElem?_take_of_lt hiK,hy];rfl
        have hv:valB (D.take (i+1))=valB (D.take i) * 256+(flU c.toNat y).toNat:=by
          rw [List.take_add_one,hDi];exact valB_snoc _ _
        have hfv:(flU c.toNat y).toNat=if c.toNat < 128 then 255 - y.toNat else y.toNat:=by
          unfold flU
          by_cases hh:c.toNat < 128
          · rw [if_pos hh,if_pos hh,UInt8.toNat_ofNat'];omega
          · rw [if_neg hh,if_neg hh]
        have q1:i+1 < r.length+1:=by omega
        by_cases hbig:(valB (D.take i):Int) > 36028797018963967
        · have hd:decS (c :: r)=(0,0,6):=by
            have hge:valB D ≥ 9223372036854775808:=by
              have h1:=valB_app (D.take i) (D.drop i)
              rw [List.take_append_drop] at h1
              have h2:256 ^ 1≤256 ^ (D.drop i).length:=Nat.pow_le_pow_right (by decide) (by simp;omega)
              have h3:36028797018963968 * 256 ^ 1≤valB (D.take i) * 256 ^ (D.drop i).length:=Nat.mul_le_mul (by omega) h2
              omega
            rw [hdec]
            by_cases hz:D.head?=some 0
            · rw [if_pos hz]
            · rw [if_neg hz,if_pos hge]
          simp (config:={ maxSteps:=1000000 }) only [hbl,gy,d1,d2,d3,q1,wy,wy2,k1,hbig,hd,reduceCtorEq,Nat.reduceEqDiff,Int.reduceNeg,↓reduceIte,BC,↓PC]
          exact ⟨[(0,0)],rfl,by simp [compat,apartM,keysBelow,idHs,BB]⟩
        · have w1:IntKind.i64.wrap (256 * (valB (D.take i):Int))=256 * (valB (D.take i):Int):=wrap64_eq (by omega) (by omega)
          have w2:IntKind.i64.wrap (256 * (valB (D.take i):Int)+(255 - (y.toNat:Int)))=256 * (valB (D.take i):Int)+(255 - (y.toNat:Int)):=wrap64_eq (by omega) (by omega)
          have w3:IntKind.i64.wrap (256 * (valB (D.take i):Int)+(y.toNat:Int))=256 * (valB (D.take i):Int)+(y.toNat:Int):=wrap64_eq (by omega) (by omega)
          simp (config:={ maxSteps:=1000000 }) only [hbl,gy,d1,d2,d3,q1,wi,wy,wy2,k1,hbig,w1,w2,w3,reduceCtorEq,Nat.reduceEqDiff,Int.reduceNeg,↓reduceIte,BC,↓PC]
          have hv2:(valB (D.take (i+1)):Int)=256 * (valB (D.take i):Int)+((flU c.toNat y).toNat:Int):=by rw [hv];omega
          refine ⟨i+1,⟨[(0,0)],by simp [↓reduceIte,BC],?_⟩,⟨by omega,?_⟩,by omega⟩
          · rw [hv2,hfv]
            simp only [k3,Nat.reduceSub,Nat.reduceEqDiff,↓reduceIte,reduceCtorEq,BC]
            try (congr 2;omega)
          · rw [hv,hfv]
            split <;> omega
      · obtain rfl:i=K:=by omega
        rw [show D.take i=D from List.take_of_length_le (by omega)] at hlt ⊢
        have d1:¬ ((i+1:Nat):Int)≤(i:Int):=by omega
        obtain ⟨hn,hm,hs⟩:=numS_facts (c:=c) hlt
        have hnum:numS c D=if c.toNat < 128 then -1 - (valB D:Int) else (valB D:Int):=rfl
        have wn:IntKind.i64.wrap (-1 - (valB D:Int))=-1 - (valB D:Int):=wrap64_eq (by omega) (by omega)
        have tk:List.take (i+1) (bys (c :: r))=bys (c :: r.take i):=by
          simp only [bys,List.map_cons,List.take_succ_cons,List.map_take]
        have ltk:(c :: r.take i).length=i+1:=by simp;omega
        have hb40:(encR (numS c D)).length≤2 ^ 40:=by have:=encR_len (numS c D);omega
        have hfl:=flat_bytes (c :: r.take i)
        have hsm:(encR (numS c D) == c :: r.take i)=!(decide (D.head?=some 0)):=by
          rw [← enc_same hn]
          by_cases hz:D.head?=some 0
          · have:=enc_of_zero (c:=c) hz hlt
            rw [hDl] at this
            rw [decide_eq_true hz,Bool.not_true,beq_eq_false_iff_ne]
            intro h
            rw [h,ltk] at this
            exact this rfl
          · have:=enc_of_dec (c:=c) (r:=r) (by omega) (by omega) (by rw [hK,hD];exact hz) (by rw [hK,hD];exact hlt)
            rw [hK,hD] at this
            rw [decide_eq_false hz,this];simp
        have hdec2:decS (c :: r)=if D.head?=some 0 then (0,0,6) else (numS c D,i+1,0):=by
          rw [hdec]
          by_cases hz:D.head?=some 0
          · rw [if_pos hz,if_pos hz]
          · rw [if_neg hz,if_neg hz,if_neg (by omega)]
        simp only [hnum,k3,if_true,if_false] at hsm hb40 hdec2
        have kk:(0:Int)≤((i+1:Nat):Int):=by omega
        have kk2:((i+1:Nat):Int)≤((r.length+1:Nat):Int):=by omega
        have kk3:i+1≤r.length+1:=by omega
        simp (config:={ maxSteps:=1000000 }) only [tabP,gIntR,gSame,hbl,d1,k1,wn,wK,tk,ltk,unB_bytes,hb40,hfl,hsm,kk,kk2,kk3,reduceCtorEq,Nat.reduceEqDiff,Nat.reduceAdd,Nat.reduceSub,Nat.reduceLeDiff,Nat.reduceLT,Int.reduceToNat,Int.reduceLE,Int.reduceNeg,↓reduceIte,evA,BC,↓PC]
        refine ⟨by cases cap with
          | none=>trivial
          | some q=>exact hcap q rfl,?_,?_⟩
        · intro h
          rw [Bool.not_not] at h
          rw [hdec2,if_pos (of_decide_eq_true h)]
          exact ⟨[(0,0)],⟨rfl,by simp [compat,apartM,keysBelow,idHs,BB]⟩,rfl,rfl,rfl⟩
        · intro h
          rw [Bool.not_not] at h
          rw [hdec2,if_neg (of_decide_eq_false h)]
          exact ⟨[(0,0)],⟨rfl,by simp [compat,apartM,keysBelow,idHs,BB]⟩,rfl,rfl,rfl⟩
def gGetIntR:GS
  | [.slc 0 0 1 len cap],[(0,⟨.view,cells⟩)]=>match unB cells with
    | some b=>if len=b.length∧b.length≤2 ^ 40 then (match capB cap b.length with
      | true=>some (tup3 (decS b),[],1)
      | false=>none) else none
    | none=>none
  | _,_=>none
theorem gGetIntR_ok:FunS Tryz.prog tS 103 gGetIntR:=by
  intro a0 m0 r m1 n1 h
  unfold gGetIntR at h
  split at h
  · split at h
    · rename_i b hb
      split at h
      · rename_i hc
        split at h
        · rename_i hcap
          cases h
          obtain ⟨rfl,h1⟩:=hc
          rw [unB_some hb]
          exact ⟨f50 b h1 _ (capB_ok hcap),by simp [freshB]⟩
        · cases h
      · cases h
    · cases h
  · cases h
end Go.Proofs.YtmhkkalbijbplaaGreatDoor

/- Package wire and the reference: the reading of counts and of texts. -/
namespace Go.Proofs.YtmhkkalbijbplaaGreatDoor
open Go Go.Sx
set_option maxRecDepth 100000
set_option linter.unusedVariables false
variable {tS:List (Nat × List SV)}
theorem dec_err {b:List UInt8} {n:Int} {u:Nat} {e:Int} (h:decS b=(n,u,e)):(e=0∧R64 n∧u≤b.length∧0 < u)∨(e≠0∧n=0∧u=0):=by
  by_cases he:e=0
  · subst he
    obtain ⟨h1,h2,h3⟩:=enc_dec h
    refine .inl ⟨rfl,h1,h2,?_⟩
    have:=congrArg List.length h3
    simp only [encI,List.length_cons,List.length_take] at this
    omega
  · refine .inr ⟨he,?_⟩
    unfold decS at h
    split at h
    · simp at h;exact ⟨h.1.symm,h.2.1.symm⟩
    · split at h
      · simp at h;exact ⟨h.1.symm,h.2.1.symm⟩
      · split at h
        · simp at h;exact ⟨h.1.symm,h.2.1.symm⟩
        · split at h
          · simp at h;exact ⟨h.1.symm,h.2.1.symm⟩
          · split at h
            · simp at h;exact ⟨h.1.symm,h.2.1.symm⟩
            · simp only [Prod.mk.injEq] at h
              exact absurd h.2.2.symm he
def tabQ:List (FuncId × GS):=[(96,gGetInt),(103,gGetIntR)]
theorem tabQ_ok:∀ x ∈ tabQ,FunS Tryz.prog tS x.1 x.2:=by
  intro x hx
  simp only [tabQ,List.mem_cons,List.not_mem_nil,or_false] at hx
  rcases hx with rfl | rfl
  · exact gGetInt_ok
  · exact gGetIntR_ok
def cntE (b:List UInt8) (s:Nat):Int:=if (decS b).2.2≠0 then (decS b).2.2 else if (decS b).1 < 0 then 6 else if (decS b).1 > (((b.length - (decS b).2.1) / s:Nat):Int) then 5 else 0
def cntP (b:List UInt8) (s:Nat):Int × Nat × Int:=((decS b).1,(decS b).2.1,cntE b s)
def cntR (b:List UInt8) (s:Nat):Int × Nat × Int:=if cntE b s≠0 then (0,0,cntE b s) else ((decS b).1,(decS b).2.1,0)
theorem f69 (b:List UInt8) (s:Nat) (hs:1≤s) (hs2:s≤1000) (hb:b.length≤2 ^ 40) :
    Fun Tryz.prog tS 135 [.slc 0 0 1 b.length none,.int .i64 (s:Int)] [(0,⟨.view,bys b⟩)] 1 (tup3 (cntP b s)) [] 1:=by
  refine fun_anyG none (callS tabQ cF) (callS_ok tabQ_ok cF_ok) ck135 (Nat.le_of_ble_eq_true rfl) (by decide) ?_
  conv in mkSF _ _=>(reduce;simp only [u8lit,UInt8.reduceOfNat,Int.reduceOfNat,Int.reduceNegSucc])
  rw [exG_mk]
  unfold tup3 cntP cntE
  have fl:=flat_bytes b
  rcases hx:decS b with ⟨n,u,e⟩
  simp only
  rcases dec_err hx with ⟨rfl,h1,h2,h3⟩ | ⟨he,rfl,rfl⟩
  · have w1:IntKind.i64.wrap ((b.length:Int) - (u:Int))=((b.length - u:Nat):Int):=by rw [wrap64_eq (by omega) (by omega)];omega
    have w2:IntKind.i64.wrap (((b.length - u:Nat):Int).tdiv (s:Int))=(((b.length - u) / s:Nat):Int):=by
      have e1:((b.length - u:Nat):Int).tdiv (s:Int)=(((b.length - u) / s:Nat):Int):=(Int.ofNat_tdiv _ _).symm
      have:=Nat.div_le_self (b.length - u) s
      rw [e1]
      generalize (b.length - u) / s=q at *
      exact wrap64_eq (by omega) (by omega)
    have s0:(s:Int)≠0:=by omega
    by_cases hn:n < 0
    · simp (config:={ maxSteps:=1000000 }) only [tabQ,gGetInt,unB_bytes,hb,fl,capB,hx,tup3,hn,Int.reduceBNe,reduceCtorEq,Nat.reduceEqDiff,Nat.reduceSub,Nat.reduceLT,Int.reduceNe,↓reduceIte,BC,↓PC]
      exact ⟨[(0,0)],rfl,by simp [compat,apartM,keysBelow,idHs,BB]⟩
    · by_cases hq:n > (((b.length - u) / s:Nat):Int)
      · simp (config:={ maxSteps:=1000000 }) only [tabQ,gGetInt,unB_bytes,hb,fl,capB,hx,tup3,hn,hq,w1,w2,Int.reduceBNe,reduceCtorEq,Nat.reduceEqDiff,Nat.reduceSub,Nat.reduceLT,Int.reduceNe,↓reduceIte,BC,↓PC]
        exact ⟨s0,[(0,0)],rfl,by simp [compat,apartM,keysBelow,idHs,BB]⟩
      · simp (config:={ maxSteps:=1000000 }) only [tabQ,gGetInt,unB_bytes,hb,fl,capB,hx,tup3,hn,hq,w1,w2,Int.reduceBNe,reduceCtorEq,Nat.reduceEqDiff,Nat.reduceSub,Nat.reduceLT,Int.reduceNe,↓reduceIte,BC,↓PC]
        exact ⟨s0,[(0,0)],rfl,by simp [compat,apartM,keysBelow,idHs,BB]⟩
  · have he':(e != 0)=true:=by simpa using he
    simp (config:={ maxSteps:=1000000 }) only [tabQ,gGetInt,unB_bytes,hb,fl,capB,hx,tup3,he',reduceCtorEq,Nat.reduceEqDiff,Nat.reduceSub,Nat.reduceLT,Int.reduceLT,↓reduceIte,BC,↓PC]
    exact ⟨[(0,0)],⟨rfl,by simp [compat,apartM,keysBelow,idHs,BB]⟩,by rw [if_pos he]⟩
theorem f71 (b:List UInt8) (s:Nat) (hs:1≤s) (hs2:s≤1000) (hb:b.length≤2 ^ 40) :
    Fun Tryz.prog tS 115 [.slc 0 0 1 b.length none,.int .i64 (s:Int)] [(0,⟨.view,bys b⟩)] 1 (tup3 (cntR b s)) [] 1:=by
  refine fun_anyG none (callS tabQ cF) (callS_ok tabQ_ok cF_ok) ck115 (Nat.le_of_ble_eq_true rfl) (by decide) ?_
  conv in mkSF _ _=>(reduce;simp only [u8lit,UInt8.reduceOfNat,Int.reduceOfNat,Int.reduceNegSucc])
  rw [exG_mk]
  unfold tup3 cntR cntE
  have fl:=flat_bytes b
  rcases hx:decS b with ⟨n,u,e⟩
  simp only
  rcases dec_err hx with ⟨rfl,h1,h2,h3⟩ | ⟨he,rfl,rfl⟩
  · have w1:IntKind.i64.wrap ((b.length:Int) - (u:Int))=((b.length - u:Nat):Int):=by rw [wrap64_eq (by omega) (by omega)];omega
    by_cases hn:n < 0
    · simp (config:={ maxSteps:=1000000 }) only [tabQ,gGetIntR,unB_bytes,hb,fl,capB,hx,tup3,hn,Int.reduceEq,Int.reduceBNe,reduceCtorEq,Nat.reduceEqDiff,Nat.reduceSub,Nat.reduceLT,Int.reduceEq,↓reduceIte,BC,↓PC]
      exact ⟨[(0,0)],rfl,by simp [compat,apartM,keysBelow,idHs,BB]⟩
    · have hle:=Nat.div_le_self (b.length - u) s
      have hdm:n≤(b.length:Int)→((n * (s:Int) > ((b.length - u:Nat):Int))↔n > (((b.length - u) / s:Nat):Int)):=by
        intro hnl
        obtain ⟨k,rfl⟩:∃ k:Nat,n=(k:Int):=⟨n.toNat,by omega⟩
        have hk:=Nat.div_lt_iff_lt_mul (x:=b.length - u) (y:=k) (k:=s) (by omega)
        constructor
        · intro h
          have:(k * s:Nat) > b.length - u:=by exact_mod_cast h
          have:=hk.2 (by omega)
          omega
        · intro h
          have:=hk.1 (by omega)
          have:(k * s:Nat) > b.length - u:=by omega
          exact_mod_cast this
      by_cases hl:n > (b.length:Int)
      · have hq:n > (((b.length - u) / s:Nat):Int):=by omega
        simp (config:={ maxSteps:=1000000 }) only [tabQ,gGetIntR,unB_bytes,hb,fl,capB,hx,tup3,hn,hl,hq,Int.reduceEq,undef,Int.reduceBNe,reduceCtorEq,Nat.reduceEqDiff,Nat.reduceSub,Nat.reduceLT,Int.reduceEq,↓reduceIte,BC,↓PC]
        exact ⟨[(0,0)],rfl,by simp [compat,apartM,keysBelow,idHs,BB]⟩
      · have w2:IntKind.i64.wrap (n * (s:Int))=n * (s:Int):=by
          have h1:0≤n * (s:Int):=Int.mul_nonneg (by omega) (by omega)
          have h2:n * (s:Int)≤1099511627776 * 1000:=Int.mul_le_mul (by omega) (by omega) (by omega) (by omega)
          exact wrap64_eq (by omega) (by omega)
        have hd:=hdm (by omega)
        by_cases hq:n > (((b.length - u) / s:Nat):Int)
        · have hq2:=hd.2 hq
          simp (config:={ maxSteps:=1000000 }) only [tabQ,gGetIntR,unB_bytes,hb,fl,capB,hx,tup3,hn,hl,hq,hq2,w1,w2,Int.reduceEq,Int.reduceBNe,reduceCtorEq,Nat.reduceEqDiff,Nat.reduceSub,Nat.reduceLT,Int.reduceEq,↓reduceIte,BC,↓PC]
          exact ⟨[(0,0)],rfl,by simp [compat,apartM,keysBelow,idHs,BB]⟩
        · have hq2:¬ n * (s:Int) > ((b.length - u:Nat):Int):=fun h=>hq (hd.1 h)
          simp (config:={ maxSteps:=1000000 }) only [tabQ,gGetIntR,unB_bytes,hb,fl,capB,hx,tup3,hn,hl,hq,hq2,w1,w2,Int.reduceBNe,reduceCtorEq,Nat.reduceEqDiff,Nat.reduceSub,Nat.reduceLT,↓reduceIte,BC,↓PC]
          exact ⟨[(0,0)],rfl,by simp [compat,apartM,keysBelow,idHs,BB]⟩
  · have he':(e != 0)=true:=by simpa using he
    have he2:(e=0)=False:=by simpa using he
    simp (config:={ maxSteps:=1000000 }) only [tabQ,gGetIntR,unB_bytes,hb,fl,capB,hx,tup3,he,he',reduceCtorEq,Nat.reduceEqDiff,Nat.reduceSub,Nat.reduceLT,↓reduceIte,BC,↓PC]
    exact ⟨[(0,0)],rfl,by simp [compat,apartM,keysBelow,idHs,BB]⟩
def gCnt (c:List UInt8→Nat→Int × Nat × Int):GS
  | [.slc 0 0 1 len none,.int .i64 z],[(0,⟨.view,cells⟩)]=>match unB cells with
    | some b=>if len=b.length∧b.length≤2 ^ 40∧1≤z.toNat∧z.toNat≤1000∧z=(z.toNat:Int) then some (tup3 (c b z.toNat),[],1) else none
    | none=>none
  | _,_=>none
theorem gCnt_eq {c:List UInt8→Nat→Int × Nat × Int} {b:List UInt8} {s:Nat} (hb:b.length≤2 ^ 40) (h1:1≤s) (h2:s≤1000) :
    gCnt c [.slc 0 0 1 b.length none,.int .i64 (s:Int)] [(0,⟨.view,bys b⟩)]=some (tup3 (c b s),[],1):=by
  unfold gCnt
  simp only [unB_bytes,Int.toNat_natCast,hb,h1,h2,and_self,if_true]
theorem gCnt_ok {f:FuncId} {c:List UInt8→Nat→Int × Nat × Int} (h:∀ (b:List UInt8) (s:Nat),1≤s→s≤1000→b.length≤2 ^ 40 →
    Fun Tryz.prog tS f [.slc 0 0 1 b.length none,.int .i64 (s:Int)] [(0,⟨.view,bys b⟩)] 1 (tup3 (c b s)) [] 1):FunS Tryz.prog tS f (gCnt c):=by
  intro a0 m0 r m1 n1 hr
  unfold gCnt at hr
  split at hr
  · split at hr
    · rename_i b hb
      split at hr
      · rename_i hc
        obtain ⟨rfl,h1,h2,h3,h4⟩:=hc
        cases hr
        rw [unB_some hb,h4]
        exact ⟨h b _ h2 h3 h1,by simp [freshB]⟩
      · cases hr
    · cases hr
  · cases hr
end Go.Proofs.YtmhkkalbijbplaaGreatDoor

/- Package wire and the reference: the reading of texts. -/
namespace Go.Proofs.YtmhkkalbijbplaaGreatDoor
open Go Go.Sx
set_option maxRecDepth 100000
set_option linter.unusedVariables false
variable {tS:List (Nat × List SV)}
theorem cnt_ok {b:List UInt8} {s:Nat} (h:cntE b s=0):∃ n u:Nat,decS b=((n:Int),u,0)∧u≤b.length∧n≤(b.length - u) / s∧0 < u:=by
  rcases hx:decS b with ⟨n,u,e⟩
  unfold cntE at h
  rw [hx] at h
  simp only at h
  split at h
  · rename_i he;exact absurd h he
  · rename_i he
    have he:e=0:=by simpa using he
    subst he
    rcases dec_err hx with ⟨_,h1,h2,h3⟩ | ⟨he,_⟩
    · split at h
      · simp at h
      · split at h
        · simp at h
        · exact ⟨n.toNat,u,by rw [show n=((n.toNat:Nat):Int) by omega];simp,h2,by omega,h3⟩
    · exact absurd rfl he
def bytS (b:List UInt8):List UInt8 × Nat × Int:=if cntE b 1≠0 then ([],0,cntE b 1) else ((b.drop (decS b).2.1).take (decS b).1.toNat,(decS b).2.1+(decS b).1.toNat,0)
def tupB (x:List UInt8 × Nat × Int):SV:=.tup [.str x.1,.int .i64 (x.2.1:Int),.int .i64 x.2.2]
def tabR:List (FuncId × GS):=[(135,gCnt cntP),(115,gCnt cntR)]
theorem tabR_ok:∀ x ∈ tabR,FunS Tryz.prog tS x.1 x.2:=by
  intro x hx
  simp only [tabR,List.mem_cons,List.not_mem_nil,or_false] at hx
  rcases hx with rfl | rfl
  · exact gCnt_ok f69
  · exact gCnt_ok f71
theorem drop_bys (b:List UInt8) (k:Nat):List.drop k (bys b)=bys (b.drop k):=by simp [bys]
theorem takeB (b:List UInt8) (k:Nat):List.take k (bys b)=bys (b.take k):=by simp [bys]
theorem f60 (b:List UInt8) (hb:b.length≤2 ^ 40) :
    Fun Tryz.prog tS 98 [.slc 0 0 1 b.length none] [(0,⟨.view,bys b⟩)] 1 (tupB (bytS b)) [] 1:=by
  refine fun_anyG none (callS tabR cF) (callS_ok tabR_ok cF_ok) ck98 (Nat.le_of_ble_eq_true rfl) (by decide) ?_
  conv in mkSF _ _=>(reduce;simp only [u8lit,UInt8.reduceOfNat,Int.reduceOfNat,Int.reduceNegSucc])
  rw [exG_mk]
  unfold tupB bytS
  have fl:=flat_bytes b
  have g1:gCnt cntP [.slc 0 0 1 b.length none,.int .i64 1] [(0,⟨.view,bys b⟩)]=some (tup3 (cntP b 1),[],1):=gCnt_eq (s:=1) hb (by decide) (by decide)
  by_cases he:cntE b 1=0
  · obtain ⟨n,u,hx,h1,h2,h3⟩:=cnt_ok he
    have hc:cntP b 1=((n:Int),u,0):=by unfold cntP;rw [hx,he]
    rw [hc] at g1
    rw [Nat.div_one] at h2
    have w1:IntKind.i64.wrap ((u:Int)+(n:Int))=((u+n:Nat):Int):=by rw [wrap64_eq (by omega) (by omega)];omega
    have k1:(0:Int)≤(u:Int):=by omega
    have k2:(u:Int)≤((u+n:Nat):Int):=by omega
    have k3:((u+n:Nat):Int)≤(b.length:Int):=by omega
    have k4:u+n - u=n:=by omega
    have k5:u+n≤b.length:=by omega
    have tk:=takeB (b.drop u) n
    simp (config:={ maxSteps:=1000000 }) only [tabR,↓g1,fl,tup3,he,hx,w1,k1,k2,k3,k4,k5,drop_bys,tk,Int.reduceBNe,reduceCtorEq,Nat.reduceEqDiff,Nat.reduceSub,Nat.reduceLT,↓reduceIte,BC,↓PC]
    exact ⟨all_isU8 _,[(0,0)],⟨rfl,by simp [compat,apartM,keysBelow,idHs,BB]⟩,by rw [map_byteOf]⟩
  · have he':(cntE b 1 != 0)=true:=by simpa using he
    have hc:∃ n u,cntP b 1=(n,u,cntE b 1):=⟨_,_,rfl⟩
    obtain ⟨n,u,hc⟩:=hc
    rw [hc] at g1
    simp (config:={ maxSteps:=1000000 }) only [tabR,↓g1,fl,tup3,he,he',reduceCtorEq,Nat.reduceEqDiff,Nat.reduceSub,Nat.reduceLT,↓reduceIte,BC,↓PC]
    exact ⟨[(0,0)],rfl,by simp [compat,apartM,keysBelow,idHs,BB]⟩
theorem f49 (b:List UInt8) (hb:b.length≤2 ^ 40) :
    Fun Tryz.prog tS 74 [.slc 0 0 1 b.length none] [(0,⟨.view,bys b⟩)] 1 (tupB (bytS b)) [] 1:=by
  refine fun_anyG none (callS tabR cF) (callS_ok tabR_ok cF_ok) ck74 (Nat.le_of_ble_eq_true rfl) (by decide) ?_
  conv in mkSF _ _=>(reduce;simp only [u8lit,UInt8.reduceOfNat,Int.reduceOfNat,Int.reduceNegSucc])
  rw [exG_mk]
  unfold tupB bytS
  have fl:=flat_bytes b
  have g1:gCnt cntR [.slc 0 0 1 b.length none,.int .i64 1] [(0,⟨.view,bys b⟩)]=some (tup3 (cntR b 1),[],1):=gCnt_eq (s:=1) hb (by decide) (by decide)
  by_cases he:cntE b 1=0
  · obtain ⟨n,u,hx,h1,h2,h3⟩:=cnt_ok he
    have hc:cntR b 1=((n:Int),u,0):=by unfold cntR;rw [hx,he];rfl
    rw [hc] at g1
    rw [Nat.div_one] at h2
    have w1:IntKind.i64.wrap ((u:Int)+(n:Int))=((u+n:Nat):Int):=by rw [wrap64_eq (by omega) (by omega)];omega
    have k1:(0:Int)≤(u:Int):=by omega
    have k2:(u:Int)≤((u+n:Nat):Int):=by omega
    have k3:((u+n:Nat):Int)≤(b.length:Int):=by omega
    have k4:u+n - u=n:=by omega
    have k5:u+n≤b.length:=by omega
    have tk:=takeB (b.drop u) n
    simp (config:={ maxSteps:=1000000 }) only [tabR,↓g1,fl,tup3,he,hx,w1,k1,k2,k3,k4,k5,drop_bys,tk,Int.reduceBNe,reduceCtorEq,Nat.reduceEqDiff,Nat.reduceSub,Nat.reduceLT,↓reduceIte,BC,↓PC]
    exact ⟨all_isU8 _,[(0,0)],⟨rfl,by simp [compat,apartM,keysBelow,idHs,BB]⟩,by rw [map_byteOf]⟩
  · have he':(cntE b 1 != 0)=true:=by simpa using he
    have hc:∃ n u,cntR b 1=(n,u,cntE b 1):=⟨0,0,by unfold cntR;rw [if_pos he]⟩
    obtain ⟨n,u,hc⟩:=hc
    rw [hc] at g1
    simp (config:={ maxSteps:=1000000 }) only [tabR,↓g1,fl,tup3,he,he',reduceCtorEq,Nat.reduceEqDiff,Nat.reduceSub,Nat.reduceLT,↓reduceIte,BC,↓PC]
    exact ⟨[(0,0)],rfl,by simp [compat,apartM,keysBelow,idHs,BB]⟩
def gGetBytes:GS
  | [.slc 0 0 1 len none],[(0,⟨.view,cells⟩)]=>match unB cells with
    | some b=>if len=b.length∧b.length≤2 ^ 40 then some (tupB (bytS b),[],1) else none
    | none=>none
  | _,_=>none
theorem gGetBytes_ok {f:FuncId} (h:∀ b:List UInt8,b.length≤2 ^ 40→Fun Tryz.prog tS f [.slc 0 0 1 b.length none] [(0,⟨.view,bys b⟩)] 1 (tupB (bytS b)) [] 1):FunS Tryz.prog tS f gGetBytes:=by
  intro a0 m0 r m1 n1 hr
  unfold gGetBytes at hr
  split at hr
  · split at hr
    · rename_i b hb
      split at hr
      · rename_i hc
        obtain ⟨rfl,h1⟩:=hc
        cases hr
        rw [unB_some hb]
        exact ⟨h b h1,by simp [freshB]⟩
      · cases hr
    · cases hr
  · cases hr
end Go.Proofs.YtmhkkalbijbplaaGreatDoor

/- The digests of an encoding. -/
namespace Go.Proofs.YtmhkkalbijbplaaGreatDoor
open Go Go.Sx
set_option maxRecDepth 100000
set_option linter.unusedVariables false
variable {tS:List (Nat × List SV)}
def dgsN (b:List UInt8):Nat:=if cntE b 16≠0 then 0 else (decS b).1.toNat
def dgsU (b:List UInt8):Nat:=if cntE b 16≠0 then 0 else (decS b).2.1+16 * (decS b).1.toNat
def dgsX (b:List UInt8):List UInt8:=if cntE b 16≠0 then [] else (b.drop (decS b).2.1).take (16 * (decS b).1.toNat)
def dgsR (b:List UInt8):SV:=.tup [nlS 1 16 (dgsN b),.int .i64 (dgsU b:Int),.int .i64 (cntE b 16)]
theorem dgX_step {b:List UInt8} {u i:Nat}:(b.drop u).take (16 * i)++(b.drop (u+16 * i)).take 16=(b.drop u).take (16 * (i+1)):=by
  rw [show 16 * (i+1)=16 * i+16 by omega,List.take_add,List.drop_drop]
set_option maxHeartbeats 4000000 in
theorem f61 (b:List UInt8) (hb:b.length≤2 ^ 36):Fun Tryz.prog tS 100 [.slc 0 0 1 b.length none] [(0,⟨.view,bys b⟩)] 1
    (dgsR b) (nlM 1 24 (bys (dgsX b)) [] (dgsN b)) (nlN 1 (dgsN b)):=by
  refine fun_anyG none (callS tabR cF) (callS_ok tabR_ok cF_ok) ck100 (Nat.le_of_ble_eq_true rfl) (by cases dgsN b <;> simp [nlN]) ?_
  conv in mkSF _ _=>(reduce;simp only [u8lit,UInt8.reduceOfNat,Int.reduceOfNat,Int.reduceNegSucc])
  rw [exG_mk]
  have hb40:b.length≤2 ^ 40:=by omega
  have fl:=flat_bytes b
  have tb:=take_bytes b
  have g1:gCnt cntP [.slc 0 0 1 b.length none,.int .i64 16] [(0,⟨.view,bys b⟩)]=some (tup3 (cntP b 16),[],1):=gCnt_eq (s:=16) hb40 (by decide) (by decide)
  by_cases he:cntE b 16=0
  · obtain ⟨n,u,hx,h1,h2,h3⟩:=cnt_ok he
    have hN:dgsN b=n:=by unfold dgsN;rw [he,hx];simp
    have hU:dgsU b=u+16 * n:=by unfold dgsU;rw [he,hx];simp
    have hX:dgsX b=(b.drop u).take (16 * n):=by unfold dgsX;rw [he,hx];simp
    have hc:cntP b 16=((n:Int),u,0):=by unfold cntP;rw [hx,he]
    have h4:16 * n≤b.length - u:=by have:=Nat.mul_le_mul_left 16 h2;have:=Nat.mul_div_le (b.length - u) 16;omega
    rw [hc] at g1
    unfold dgsR
    rw [hN,hU,hX,he]
    simp (config:={ maxSteps:=1000000 }) only [tabR,↓g1,fl,tb,tup3,Int.reduceBNe,reduceCtorEq,Nat.reduceEqDiff,Nat.reduceSub,Nat.reduceLT,↓reduceIte,BC,↓PC]
    rw [den_loop]
    have rB:∀ η,SV.renL η (bys b)=bys b:=fun η=>ren_bytes η b
    refine den_inv (callS_ok tabR_ok cF_ok) (σ:=Nat) (fun i=>[(19,.int .i64 (i:Int)),(18,.int .i64 (n:Int)),(8,nlS 1 16 i),(6,.int .i64 ((u+16 * i:Nat):Int)),(0,.slc 0 0 1 b.length none)])
      (fun i=>nlM 1 24 (bys ((b.drop u).take (16 * i))) [(0,⟨.view,bys b⟩)] i) (fun i=>nlN 1 i) (fun i=>i≤n) (fun i=>n - i) 0 ?_ (Nat.zero_le _) ?_
    · exact ⟨[(0,0)],by simp only [Nat.mul_zero,rB,Nat.reduceSub,Nat.reduceLT,↓reduceIte,BC],by simp [Nat.reduceEqDiff,↓reduceIte,reduceCtorEq,BC]⟩
    · intro i hi
      by_cases hin:i < n
      · have c1:(i:Int) < (n:Int):=by omega
        have v4:IntKind.i64.wrap ((i:Int)+1)=((i+1:Nat):Int):=by rw [wrap64_eq (by omega) (by omega)];omega
        have w1:IntKind.i64.wrap (((u+16 * i:Nat):Int)+16)=((u+16 * (i+1):Nat):Int):=by rw [wrap64_eq (by omega) (by omega)];omega
        have b1:(0:Int)≤((u+16 * i:Nat):Int):=by omega
        have b2:((u+16 * i:Nat):Int)≤((u+16 * (i+1):Nat):Int):=by omega
        have b3:u+16 * (i+1)≤b.length:=by omega
        have b4:u+16 * (i+1) - (u+16 * i)=16:=by omega
        have hD:((b.drop (u+16 * i)).take 16).length=16:=by simp;omega
        have tD:List.take 16 (List.drop (u+16 * i) (bys b))=bys ((b.drop (u+16 * i)).take 16):=by simp [bys,List.map_take,List.map_drop]
        have hst:=dgX_step (b:=b) (u:=u) (i:=i)
        have lX:((b.drop u).take (16 * i)).length=16 * i:=by simp;omega
        have lX1:((b.drop u).take (16 * (i+1))).length=16 * (i+1):=by simp;omega
        generalize hDe:(b.drop (u+16 * i)).take 16=D at *
        have lD:(bys D).length=16:=by rw [len_bytes,hD]
        have ttD:List.take 16 (bys D)=bys D:=List.take_of_length_le (by omega)
        have ap:bys ((b.drop u).take (16 * i))++bys D=bys ((b.drop u).take (16 * (i+1))):=by rw [bytes_app,hst]
        have tX:List.take (i * 16) (bys ((b.drop u).take (16 * i)))=bys ((b.drop u).take (16 * i)):=List.take_of_length_le (by rw [len_bytes,lX];omega)
        rcases Nat.eq_zero_or_pos i with h0 | h0
        · have ap0:bys D=bys ((b.drop u).take (16 * (i+1))):=by rw [← hst,h0];simp
          rw [nlS_z h0,nlM_z h0,nlN_z h0]
          have b5:u+16 * i < b.length:=by omega
          simp (config:={ maxSteps:=1000000 }) only [c1,v4,w1,b1,b2,b4,tD,lD,ttD,reduceCtorEq,Nat.reduceEqDiff,Nat.reduceAdd,Nat.reduceMul,Nat.reduceLT,↓reduceIte,splice,BC,↓PC]
          refine ⟨by omega,b5,by omega,by omega,by omega,i+1,?_,by omega,by omega⟩
          rw [nlS_p (Nat.succ_pos i),nlM_p (Nat.succ_pos i),nlN_p (Nat.succ_pos i),← ap0]
          exact ⟨[(0,0),(2,0)],by simp [rB,Nat.reduceAdd,Nat.reduceLeDiff,↓reduceIte,reduceCtorEq,BC],by simp [h0,Nat.reduceAdd,Nat.reduceEqDiff,Nat.reduceLeDiff,↓reduceIte,reduceCtorEq,BC]⟩
        · rw [nlS_p h0,nlM_p h0,nlN_p h0]
          simp (config:={ maxSteps:=1000000 }) only [c1,v4,w1,b1,b2,b4,tD,lD,ttD,tX,lX,ap,reduceCtorEq,Nat.reduceEqDiff,Nat.reduceAdd,Nat.reduceMul,Nat.reduceLT,↓reduceIte,splice,BC,↓PC]
          refine ⟨by omega,by omega,by omega,by omega,by omega,by omega,i+1,?_,by omega,by omega⟩
          rw [nlS_p (Nat.succ_pos i),nlM_p (Nat.succ_pos i),nlN_p (Nat.succ_pos i)]
          exact ⟨[(0,0),(3,0)],by simp [rB,Nat.reduceAdd,Nat.reduceLeDiff,↓reduceIte,reduceCtorEq,BC],by simp [Nat.reduceAdd,Nat.reduceEqDiff,Nat.reduceLeDiff,↓reduceIte,reduceCtorEq,BC]⟩
      · obtain rfl:i=n:=by omega
        have c3:decide ((i:Int) < (i:Int))=false:=by simp
        rcases Nat.eq_zero_or_pos i with h0 | h0
        · simp only [nlS_z h0,nlM_z h0,nlN_z h0]
          simp (config:={ maxSteps:=1000000 }) only [c3,reduceCtorEq,Nat.reduceEqDiff,↓reduceIte,BC,↓PC]
          exact ⟨[(0,0)],by simp [List.length_cons,List.length_nil,Nat.zero_add],by simp [compat,apartM,keysBelow,idHs,BB]⟩
        · simp only [nlS_p h0,nlM_p h0,nlN_p h0]
          simp (config:={ maxSteps:=1000000 }) only [c3,reduceCtorEq,Nat.reduceEqDiff,Nat.reduceAdd,↓reduceIte,BC,↓PC]
          exact ⟨[(0,0),(1,0)],by simp [Nat.reduceAdd,Nat.reduceLeDiff,↓reduceIte,BC],by simp [Nat.reduceAdd,Nat.reduceLeDiff,BB]⟩
  · have hN:dgsN b=0:=by unfold dgsN;rw [if_pos he]
    have hU:dgsU b=0:=by unfold dgsU;rw [if_pos he]
    have hX:dgsX b=[]:=by unfold dgsX;rw [if_pos he]
    have he2:(cntE b 16 != 0)=true:=by simpa using he
    unfold dgsR
    rw [hN,hU,hX]
    have hc:cntP b 16=((decS b).1,(decS b).2.1,cntE b 16):=rfl
    rw [hc] at g1
    simp (config:={ maxSteps:=1000000 }) only [tabR,↓g1,fl,tb,tup3,he2,reduceCtorEq,Nat.reduceEqDiff,Nat.reduceSub,Nat.reduceLT,↓reduceIte,BC,↓PC]
    exact ⟨[(0,0)],by simp [List.length_cons,List.length_nil,Nat.zero_add],by simp [compat,apartM,keysBelow,idHs,BB]⟩
theorem cpC_len'' {X:List UInt8} {i:Nat} (hX:16≤X.length) (h:i≤16):(cpC X i).length=16:=by simp [cpC,len_bytes];omega
set_option maxHeartbeats 8000000 in
theorem f65 (b:List UInt8) (hb:b.length≤2 ^ 36):Fun Tryz.prog tS 104 [.slc 0 0 1 b.length none] [(0,⟨.view,bys b⟩)] 1
    (dgsR b) (nlM 1 24 (bys (dgsX b)) [] (dgsN b)) (nlN 1 (dgsN b)):=by
  refine fun_anyG none (callS tabR cF) (callS_ok tabR_ok cF_ok) ck104 (Nat.le_of_ble_eq_true rfl) (by cases dgsN b <;> simp [nlN]) ?_
  conv in mkSF _ _=>(reduce;simp only [u8lit,UInt8.reduceOfNat,Int.reduceOfNat,Int.reduceNegSucc])
  rw [exG_mk]
  have hb40:b.length≤2 ^ 40:=by omega
  have fl:=flat_bytes b
  have tb:=take_bytes b
  have g1:gCnt cntR [.slc 0 0 1 b.length none,.int .i64 16] [(0,⟨.view,bys b⟩)]=some (tup3 (cntR b 16),[],1):=gCnt_eq (s:=16) hb40 (by decide) (by decide)
  by_cases he:cntE b 16=0
  · obtain ⟨n,u,hx,h1,h2,h3⟩:=cnt_ok he
    have hN:dgsN b=n:=by unfold dgsN;rw [he,hx];simp
    have hU:dgsU b=u+16 * n:=by unfold dgsU;rw [he,hx];simp
    have hX:dgsX b=(b.drop u).take (16 * n):=by unfold dgsX;rw [he,hx];simp
    have hc:cntR b 16=((n:Int),u,0):=by unfold cntR;rw [hx,he];simp
    have h4:16 * n≤b.length - u:=by have:=Nat.mul_le_mul_left 16 h2;have:=Nat.mul_div_le (b.length - u) 16;omega
    rw [hc] at g1
    unfold dgsR
    rw [hN,hU,hX,he]
    simp (config:={ maxSteps:=1000000 }) only [tabR,↓g1,fl,tb,tup3,Int.reduceBNe,reduceCtorEq,Nat.reduceEqDiff,Nat.reduceSub,Nat.reduceLT,↓reduceIte,BC,↓PC]
    rw [den_loop]
    have rB:∀ η,SV.renL η (bys b)=bys b:=fun η=>ren_bytes η b
    have rC:∀ η X i,SV.renL η (cpC X i)=cpC X i:=fun η X i=>cpC_ren η X i
    refine den_inv (callS_ok tabR_ok cF_ok) (σ:=Nat) (fun i=>[(9,.int .i64 (i:Int)),(8,nlS 1 16 i),(6,.int .i64 ((u+16 * i:Nat):Int)),(5,.int .i64 (n:Int)),(0,.slc 0 0 1 b.length none)])
      (fun i=>nlM 1 24 (bys ((b.drop u).take (16 * i))) [(0,⟨.view,bys b⟩)] i) (fun i=>nlN 1 i) (fun i=>i≤n) (fun i=>n - i) 0 ?_ (Nat.zero_le _) ?_
    · exact ⟨[(0,0)],by simp only [Nat.mul_zero,rB,Nat.reduceSub,Nat.reduceLT,↓reduceIte,BC],by simp [Nat.reduceEqDiff,↓reduceIte,reduceCtorEq,BC]⟩
    · intro i hi
      by_cases hin:i < n
      · have c1:(i:Int) < (n:Int):=by omega
        have v4:IntKind.i64.wrap ((i:Int)+1)=((i+1:Nat):Int):=by rw [wrap64_eq (by omega) (by omega)];omega
        have w1:IntKind.i64.wrap (((u+16 * i:Nat):Int)+16)=((u+16 * (i+1):Nat):Int):=by rw [wrap64_eq (by omega) (by omega)];omega
        have hDl:16≤(b.drop (u+16 * i)).length:=by simp;omega
        have hD:((b.drop (u+16 * i)).take 16).length=16:=by simp;omega
        have hst:=dgX_step (b:=b) (u:=u) (i:=i)
        have lX:((b.drop u).take (16 * i)).length=16 * i:=by simp;omega
        generalize hDe:(b.drop (u+16 * i)).take 16=D at *
        have lD:(bys D).length=16:=by rw [len_bytes,hD]
        have ttD:List.take 16 (bys D)=bys D:=List.take_of_length_le (by omega)
        have ap:bys ((b.drop u).take (16 * i))++bys D=bys ((b.drop u).take (16 * (i+1))):=by rw [bytes_app,hst]
        have tX:List.take (i * 16) (bys ((b.drop u).take (16 * i)))=bys ((b.drop u).take (16 * i)):=List.take_of_length_le (by rw [len_bytes,lX];omega)
        rcases Nat.eq_zero_or_pos i with h0 | h0
        · have ap0:bys D=bys ((b.drop u).take (16 * (i+1))):=by rw [← hst,h0];simp
          simp only [nlS_z h0,nlM_z h0,nlN_z h0]
          simp (config:={ maxSteps:=1000000 }) only [c1,reduceCtorEq,Nat.reduceEqDiff,Nat.reduceAdd,↓reduceIte,BC,↓PC]
          rw [den_loop]
          refine den_inv (callS_ok tabR_ok cF_ok) (σ:=Nat) (fun j=>[(11,.int .i64 (j:Int)),(10,.ptr 1 0),(9,.int .i64 (i:Int)),(8,.val (.slice none 0 0)),(6,.int .i64 ((u+16 * i:Nat):Int)),(5,.int .i64 (n:Int)),(0,.slc 0 0 1 b.length none)])
            (fun j=>[(1,⟨.own 24,cpC (b.drop (u+16 * i)) j⟩),(0,⟨.view,bys b⟩)]) (fun _=>2) (fun j=>j≤16) (fun j=>16 - j) 0 ?_ (Nat.zero_le _) ?_
          · exact ⟨[(0,0),(1,0)],by simp only [rB,rC,Nat.reduceAdd,Nat.reduceSub,Nat.reduceLT,Nat.reduceLeDiff,↓reduceIte,BC] <;> rfl,by simp [Nat.reduceAdd,Nat.reduceEqDiff,Nat.reduceLeDiff,↓reduceIte,reduceCtorEq,BC]⟩
          · intro j hj
            have lC:=cpC_len'' (X:=b.drop (u+16 * i)) hDl hj
            by_cases h16:j < 16
            · obtain ⟨x,hx⟩:∃ x,b[u+16 * i+j]?=some x:=⟨b[u+16 * i+j]'(by omega),by rw [List.getElem?_eq_getElem]⟩
              have gx:=get_bysI hx
              have hx':(b.drop (u+16 * i))[j]?=some x:=by rw [List.getElem?_drop];exact hx
              have d1:(j:Int) < 16:=by omega
              have d2:(0:Int)≤(j:Int):=by omega
              have d4:IntKind.i64.wrap ((j:Int)+1)=((j+1:Nat):Int):=by rw [wrap64_eq (by omega) (by omega)];omega
              have d5:IntKind.i64.wrap (((u+16 * i:Nat):Int)+(j:Int))=((u+16 * i+j:Nat):Int):=by rw [wrap64_eq (by omega) (by omega)];omega
              have d6:(0:Int)≤((u+16 * i+j:Nat):Int):=by omega
              have d7:((u+16 * i+j:Nat):Int) < (b.length:Int):=by omega
              have op:=cpC_put hx' h16
              simp (config:={ maxSteps:=1000000 }) only [d1,d2,d4,d5,d6,d7,gx,lC,op,reduceCtorEq,Nat.reduceEqDiff,Nat.reduceLeDiff,↓reduceIte,upd,BC,↓PC]
              exact ⟨by omega,by omega,j+1,⟨[(0,0),(1,0)],by simp only [rB,rC,Nat.reduceAdd,Nat.reduceSub,Nat.reduceLT,Nat.reduceLeDiff,↓reduceIte,BC],by simp [Nat.reduceAdd,Nat.reduceEqDiff,Nat.reduceLeDiff,↓reduceIte,reduceCtorEq,BC]⟩,by omega,by omega⟩
            · obtain rfl:j=16:=by omega
              have tC:List.take 16 (cpC (b.drop (u+16 * i)) 16)=bys D:=by rw [List.take_of_length_le (by omega),cpC_all,hDe]
              simp (config:={ maxSteps:=1000000 }) only [v4,w1,tC,lC,lD,ttD,reduceCtorEq,Nat.reduceEqDiff,Nat.reduceAdd,Nat.reduceMul,Int.reduceLT,↓reduceIte,splice,BC,↓PC]
              refine ⟨by omega,by omega,i+1,?_,by omega,by omega⟩
              rw [nlS_p (Nat.succ_pos i),nlM_p (Nat.succ_pos i),nlN_p (Nat.succ_pos i),← ap0]
              exact ⟨[(0,0),(3,0)],by simp [rB,Nat.reduceAdd,Nat.reduceLeDiff,↓reduceIte,reduceCtorEq,BC],by simp [h0,Nat.reduceAdd,Nat.reduceEqDiff,Nat.reduceLeDiff,↓reduceIte,reduceCtorEq,BC]⟩
        · skip
          simp only [nlS_p h0,nlM_p h0,nlN_p h0]
          simp (config:={ maxSteps:=1000000 }) only [c1,reduceCtorEq,Nat.reduceEqDiff,Nat.reduceAdd,↓reduceIte,BC,↓PC]
          rw [den_loop]
          refine den_inv (callS_ok tabR_ok cF_ok) (σ:=Nat) (fun j=>[(11,.int .i64 (j:Int)),(10,.ptr 2 0),(9,.int .i64 (i:Int)),(8,.slc 1 0 16 i none),(6,.int .i64 ((u+16 * i:Nat):Int)),(5,.int .i64 (n:Int)),(0,.slc 0 0 1 b.length none)])
            (fun j=>[(2,⟨.own 24,cpC (b.drop (u+16 * i)) j⟩),(1,⟨.own 24,bys ((b.drop u).take (16 * i))⟩),(0,⟨.view,bys b⟩)]) (fun _=>3) (fun j=>j≤16) (fun j=>16 - j) 0 ?_ (Nat.zero_le _) ?_
          · exact ⟨[(0,0),(1,0),(2,0)],by simp only [rB,rC,Nat.reduceAdd,Nat.reduceSub,Nat.reduceLT,Nat.reduceLeDiff,↓reduceIte,reduceCtorEq,BC] <;> rfl,by simp [Nat.reduceAdd,Nat.reduceEqDiff,Nat.reduceLT,Nat.reduceLeDiff,↓reduceIte,reduceCtorEq,BC]⟩
          · intro j hj
            have lC:=cpC_len'' (X:=b.drop (u+16 * i)) hDl hj
            by_cases h16:j < 16
            · obtain ⟨x,hx⟩:∃ x,b[u+16 * i+j]?=some x:=⟨b[u+16 * i+j]'(by omega),by rw [List.getElem?_eq_getElem]⟩
              have gx:=get_bysI hx
              have hx':(b.drop (u+16 * i))[j]?=some x:=by rw [List.getElem?_drop];exact hx
              have d1:(j:Int) < 16:=by omega
              have d2:(0:Int)≤(j:Int):=by omega
              have d4:IntKind.i64.wrap ((j:Int)+1)=((j+1:Nat):Int):=by rw [wrap64_eq (by omega) (by omega)];omega
              have d5:IntKind.i64.wrap (((u+16 * i:Nat):Int)+(j:Int))=((u+16 * i+j:Nat):Int):=by rw [wrap64_eq (by omega) (by omega)];omega
              have d6:(0:Int)≤((u+16 * i+j:Nat):Int):=by omega
              have d7:((u+16 * i+j:Nat):Int) < (b.length:Int):=by omega
              have op:=cpC_put hx' h16
              simp (config:={ maxSteps:=1000000 }) only [d1,d2,d4,d5,d6,d7,gx,lC,op,reduceCtorEq,Nat.reduceEqDiff,Nat.reduceLeDiff,↓reduceIte,upd,BC,↓PC]
              exact ⟨by omega,by omega,j+1,⟨[(0,0),(1,0),(2,0)],by simp only [rB,rC,Nat.reduceAdd,Nat.reduceSub,Nat.reduceLT,Nat.reduceLeDiff,↓reduceIte,reduceCtorEq,BC],by simp [Nat.reduceAdd,Nat.reduceEqDiff,Nat.reduceLT,Nat.reduceLeDiff,↓reduceIte,reduceCtorEq,BC]⟩,by omega,by omega⟩
            · obtain rfl:j=16:=by omega
              have tC:List.take 16 (cpC (b.drop (u+16 * i)) 16)=bys D:=by rw [List.take_of_length_le (by omega),cpC_all,hDe]
              simp (config:={ maxSteps:=1000000 }) only [v4,w1,tC,lC,lD,ttD,tX,lX,ap,reduceCtorEq,Nat.reduceEqDiff,Nat.reduceAdd,Nat.reduceMul,Int.reduceLT,↓reduceIte,splice,BC,↓PC]
              refine ⟨by omega,by omega,by omega,i+1,?_,by omega,by omega⟩
              rw [nlS_p (Nat.succ_pos i),nlM_p (Nat.succ_pos i),nlN_p (Nat.succ_pos i)]
              exact ⟨[(0,0),(4,0)],by simp [rB,Nat.reduceAdd,Nat.reduceLeDiff,↓reduceIte,reduceCtorEq,BC],by simp [Nat.reduceAdd,Nat.reduceEqDiff,Nat.reduceLeDiff,↓reduceIte,reduceCtorEq,BC]⟩
      · obtain rfl:i=n:=by omega
        have c3:decide ((i:Int) < (i:Int))=false:=by simp
        rcases Nat.eq_zero_or_pos i with h0 | h0
        · simp only [nlS_z h0,nlM_z h0,nlN_z h0]
          simp (config:={ maxSteps:=1000000 }) only [c3,reduceCtorEq,Nat.reduceEqDiff,↓reduceIte,BC,↓PC]
          exact ⟨[(0,0)],by simp [List.length_cons,List.length_nil,Nat.zero_add],by simp [compat,apartM,keysBelow,idHs,BB]⟩
        · simp only [nlS_p h0,nlM_p h0,nlN_p h0]
          simp (config:={ maxSteps:=1000000 }) only [c3,reduceCtorEq,Nat.reduceEqDiff,Nat.reduceAdd,↓reduceIte,BC,↓PC]
          exact ⟨[(0,0),(1,0)],by simp [Nat.reduceAdd,Nat.reduceLeDiff,↓reduceIte,BC],by simp [Nat.reduceAdd,Nat.reduceLeDiff,BB]⟩
  · have hN:dgsN b=0:=by unfold dgsN;rw [if_pos he]
    have hU:dgsU b=0:=by unfold dgsU;rw [if_pos he]
    have hX:dgsX b=[]:=by unfold dgsX;rw [if_pos he]
    have he2:(cntE b 16 != 0)=true:=by simpa using he
    unfold dgsR
    rw [hN,hU,hX]
    have hc:cntR b 16=(0,0,cntE b 16):=by unfold cntR;rw [if_pos he]
    rw [hc] at g1
    simp (config:={ maxSteps:=1000000 }) only [tabR,↓g1,fl,tb,tup3,he2,reduceCtorEq,Nat.reduceEqDiff,Nat.reduceSub,Nat.reduceLT,↓reduceIte,BC,↓PC]
    exact ⟨[(0,0)],by simp [List.length_cons,List.length_nil,Nat.zero_add],by simp [compat,apartM,keysBelow,idHs,BB]⟩
def gDgs:GS
  | [.slc 0 0 1 len none],[(0,⟨.view,cells⟩)]=>match unB cells with
    | some b=>if len=b.length∧b.length≤2 ^ 36 then some (dgsR b,nlM 1 24 (bys (dgsX b)) [] (dgsN b),nlN 1 (dgsN b)) else none
    | none=>none
  | _,_=>none
theorem gDgs_eq {b:List UInt8} (h:b.length≤2 ^ 36):gDgs [.slc 0 0 1 b.length none] [(0,⟨.view,bys b⟩)]=some (dgsR b,nlM 1 24 (bys (dgsX b)) [] (dgsN b),nlN 1 (dgsN b)):=by
  unfold gDgs
  simp only [unB_bytes]
  rw [if_pos ⟨trivial,h⟩]
theorem gDgs_of {f:FuncId} (H:∀ b:List UInt8,b.length≤2 ^ 36→Fun Tryz.prog tS f [.slc 0 0 1 b.length none] [(0,⟨.view,bys b⟩)] 1 (dgsR b) (nlM 1 24 (bys (dgsX b)) [] (dgsN b)) (nlN 1 (dgsN b))):FunS Tryz.prog tS f gDgs:=by
  intro a0 m0 r m1 n1 h
  unfold gDgs at h
  split at h
  · split at h
    · rename_i b hb
      split at h
      · rename_i hc
        cases h
        obtain ⟨rfl,h2⟩:=hc
        rw [unB_some hb]
        refine ⟨H b h2,?_⟩
        rcases Nat.eq_zero_or_pos (dgsN b) with h0 | h0
        · rw [nlM_z h0];simp [freshB]
        · rw [nlM_p h0];simp [freshB]
      · cases h
    · cases h
  · cases h
theorem gDgs61:FunS Tryz.prog tS 100 gDgs:=gDgs_of f61
theorem gDgs65:FunS Tryz.prog tS 104 gDgs:=gDgs_of f65
end Go.Proofs.YtmhkkalbijbplaaGreatDoor

/- The check of a signature of a tree: contracts of Verify and of the digest. -/
namespace Go.Proofs.YtmhkkalbijbplaaGreatDoor
open Go Go.Sx
set_option maxRecDepth 100000
set_option linter.unusedSimpArgs false
set_option linter.unusedVariables false
def gVer:GS
  | [.agg pc,.int .i64 N,.int .i64 i,.agg dc,.slc 0 0 16 h none],[(0,⟨.view,xc⟩)]=>match unB pc,unB dc,unB xc with
    | some p,some d,some X=>if p.length=16∧d.length=16∧X.length=16 * h∧h≤6∧0 < h∧N=P2 h∧0≤i∧i.toNat < 2 ^ h then
        some (.bool (shS (inK i.toNat d X h) == p),[],1) else none
    | _,_,_=>none
  | [.agg pc,.int .i64 N,.int .i64 i,.agg dc,.val (.slice none 0 0)],[]=>match unB pc,unB dc with
    | some p,some d=>if p.length=16∧d.length=16∧N=P2 0∧i=0 then some (.bool (shS (ofM 1 [d]) == p),[],0) else none
    | _,_=>none
  | _,_=>none
theorem gVer_eq {h i:Nat} {p d X:List UInt8} (hp:p.length=16) (hh:h≤6) (h0:0 < h) (hi:i < 2 ^ h) (hd:d.length=16) (hX:X.length=16 * h) :
    gVer [.agg (bys p),.int .i64 (P2 h),.int .i64 (i:Int),.agg (bys d),.slc 0 0 16 h none] [(0,⟨.view,bys X⟩)]=some (.bool (shS (inK i d X h) == p),[],1):=by
  unfold gVer
  simp only [unB_bytes,Int.toNat_natCast]
  rw [if_pos ⟨hp,hd,hX,hh,h0,trivial,by omega,hi⟩]
theorem gVer_z {p d:List UInt8} (hp:p.length=16) (hd:d.length=16) :
    gVer [.agg (bys p),.int .i64 (P2 0),.int .i64 0,.agg (bys d),.val (.slice none 0 0)] []=some (.bool (shS (ofM 1 [d]) == p),[],0):=by
  unfold gVer
  simp only [unB_bytes]
  rw [if_pos ⟨hp,hd,trivial,trivial⟩]
theorem gVer_of {f:FuncId}
    (H:∀ (h i:Nat) (p d X:List UInt8),p.length=16→h≤6→0 < h→i < 2 ^ h→d.length=16→X.length=16 * h →
      Fun Tryz.prog tH2 f [.agg (bys p),.int .i64 (P2 h),.int .i64 (i:Int),.agg (bys d),.slc 0 0 16 h none] [(0,⟨.view,bys X⟩)] 1 (.bool (shS (inK i d X h) == p)) [] 1)
    (Hz:∀ (p d:List UInt8),p.length=16→d.length=16 →
      Fun Tryz.prog tH2 f [.agg (bys p),.int .i64 (P2 0),.int .i64 0,.agg (bys d),.val (.slice none 0 0)] [] 0 (.bool (shS (ofM 1 [d]) == p)) [] 0):FunS Tryz.prog tH2 f gVer:=by
  intro a0 m0 r m1 n1 h
  unfold gVer at h
  split at h
  · split at h
    · rename_i p d X hp hd hX
      split at h
      · rename_i hc
        cases h
        obtain ⟨c1,c2,c3,c4,c5,rfl,c7,c8⟩:=hc
        obtain ⟨k,rfl⟩:=Int.eq_ofNat_of_zero_le c7
        rw [unB_some hp,unB_some hd,unB_some hX]
        rw [Int.toNat_natCast] at c8 ⊢
        exact ⟨H _ k p d X c1 c4 c5 c8 c2 c3,by simp [freshB]⟩
      · cases h
    · cases h
  · split at h
    · rename_i p d hp hd
      split at h
      · rename_i hc
        cases h
        obtain ⟨c1,c2,rfl,rfl⟩:=hc
        rw [unB_some hp,unB_some hd]
        exact ⟨Hz p d c1 c2,by simp [freshB]⟩
      · cases h
    · cases h
  · cases h
theorem gVer64:FunS Tryz.prog tH2 102 gVer:=gVer_of f64 f64z
theorem gVer68:FunS Tryz.prog tH2 106 gVer:=gVer_of f68 f68z
def gDig6:List SV→Option SV
  | [.agg cells,.int .i64 i,.str msg]=>match unB cells with
    | some p=>if p.length=16∧msg.length≤2 ^ 30∧-9223372036854775808≤i∧i≤9223372036854775807 then some (.agg (bys (ofS 6 [p,encI i,msg]))) else none
    | none=>none
  | _=>none
theorem gDig6_eq {p msg:List UInt8} {i:Int} (hp:p.length=16) (hm:msg.length≤2 ^ 30) (h1:-9223372036854775808≤i) (h2:i≤9223372036854775807) :
    gDig6 [.agg (bys p),.int .i64 i,.str msg]=some (.agg (bys (ofS 6 [p,encI i,msg]))):=by
  unfold gDig6
  simp only [unB_bytes]
  rw [if_pos ⟨hp,hm,h1,h2⟩]
theorem gDig6_of {f:FuncId} (H:∀ (p msg:List UInt8) (i:Int),p.length=16→msg.length≤2 ^ 30→R64 i→Fun Tryz.prog tH2 f [.agg (bys p),.int .i64 i,.str msg] [] 0 (.agg (bys (ofS 6 [p,encI i,msg]))) [] 0) :
    ∀ args r,gDig6 args=some r→Fun Tryz.prog tH2 f args [] 0 r [] 0∧(∀ η,SV.renL η args=args)∧∀ η,r.ren η=r:=by
  intro args r hr
  unfold gDig6 at hr
  split at hr
  · split at hr
    · rename_i p hp
      split at hr
      · rename_i hc
        cases hr
        rw [unB_some hp]
        exact ⟨H p _ _ hc.1 hc.2.1 hc.2.2,fun η=>by simp only [SV.renL,SV.ren,ren_bytes],fun η=>by simp only [SV.renL,SV.ren,ren_bytes]⟩
      · cases hr
    · cases hr
  · cases hr
end Go.Proofs.YtmhkkalbijbplaaGreatDoor

/- The check of a signature of a tree: the reference's. -/
namespace Go.Proofs.YtmhkkalbijbplaaGreatDoor
open Go Go.Sx
set_option maxRecDepth 100000
set_option linter.unusedVariables false
structure Sg where
  i:Int
  u1:Nat
  e1:Int
  s:List UInt8
  u2:Nat
  e2:Int
  n:Nat
  u3:Nat
  e3:Int
  x:List UInt8
def sgOf (b:List UInt8):Sg:=
  let d:=decS b
  let t:=bytS (b.drop d.2.1)
  let q:=b.drop (d.2.1+t.2.1)
  ⟨d.1,d.2.1,d.2.2,t.1,t.2.1,t.2.2,dgsN q,dgsU q,cntE q 16,dgsX q⟩
def verS (p:List UInt8) (ht:Int) (msg sig:List UInt8):Int × Int:=
  if ht < 0∨6 < ht then (0,1) else if 1048576 < msg.length then (0,2) else
  let g:=sgOf sig
  if g.e1≠0 then (0,g.e1) else if g.e2≠0 then (0,g.e2) else if g.e3≠0 then (0,g.e3) else
  if g.u1+g.u2+g.u3≠sig.length∨g.i < 0∨g.i ≥ P2 ht.toNat∨(g.n:Int)≠ht then (0,6) else
  if g.s.length≠560 then (0,8) else
  if shS (inK g.i.toNat (recS (ofS 6 [p,encI g.i,msg]) g.s) g.x g.n) == p then (g.i,0) else (0,8)
def verT (p:List UInt8) (ht:Int) (msg sig:List UInt8):SV:=.tup [.int .i64 (verS p ht msg sig).1,.int .i64 (verS p ht msg sig).2]
theorem byt_ok {b s:List UInt8} {u:Nat} (h:bytS b=(s,u,0)):u≤b.length:=by
  unfold bytS at h
  split at h
  · rename_i h1
    simp only [Prod.mk.injEq] at h
    exact absurd h.2.2 h1
  · rename_i h1
    obtain ⟨n,w,hx,h2,h3,h4⟩:=cnt_ok (s:=1) (by simpa using h1)
    rw [hx] at h
    simp only [Prod.mk.injEq,Int.toNat_natCast,Nat.div_one] at h h3
    omega
theorem dgs_ok {b:List UInt8} (h:cntE b 16=0):dgsU b≤b.length∧(dgsX b).length=16 * dgsN b:=by
  obtain ⟨n,u,hx,h1,h2,h3⟩:=cnt_ok h
  have h4:16 * n≤b.length - u:=by have:=Nat.mul_le_mul_left 16 h2;have:=Nat.mul_div_le (b.length - u) 16;omega
  unfold dgsU dgsX dgsN
  rw [if_neg (by simpa using h),if_neg (by simpa using h),if_neg (by simpa using h),hx]
  simp only [Int.toNat_natCast,List.length_take,List.length_drop]
  omega
theorem gDgsz {b:List UInt8} (h:cntE b 16≠0):dgsN b=0:=by unfold dgsN;rw [if_pos h]
theorem p2_le {h:Nat} (hh:h≤6):P2 h≤64∧1≤P2 h:=by
  have:h=0∨h=1∨h=2∨h=3∨h=4∨h=5∨h=6:=by omega
  rcases this with rfl | rfl | rfl | rfl | rfl | rfl | rfl <;> decide
theorem p2_shl {h:Nat} (hh:h≤6):IntKind.i64.wrap (1 * 2 ^ (min h IntKind.i64.bits))=P2 h:=by
  have:h=0∨h=1∨h=2∨h=3∨h=4∨h=5∨h=6:=by omega
  rcases this with rfl | rfl | rfl | rfl | rfl | rfl | rfl <;> decide
theorem verS_in {p msg sig:List UInt8} {h:Nat} (hh:h≤6) (h3:msg.length≤1048576):verS p h msg sig =
    (if (sgOf sig).e1≠0 then (0,(sgOf sig).e1) else if (sgOf sig).e2≠0 then (0,(sgOf sig).e2) else if (sgOf sig).e3≠0 then (0,(sgOf sig).e3) else
      if (sgOf sig).u1+(sgOf sig).u2+(sgOf sig).u3≠sig.length∨(sgOf sig).i < 0∨(sgOf sig).i ≥ P2 h∨((sgOf sig).n:Int)≠(h:Int) then (0,6) else
      if (sgOf sig).s.length≠560 then (0,8) else
      if shS (inK (sgOf sig).i.toNat (recS (ofS 6 [p,encI (sgOf sig).i,msg]) (sgOf sig).s) (sgOf sig).x (sgOf sig).n) == p then ((sgOf sig).i,0) else (0,8)):=by
  unfold verS
  rw [if_neg (by omega),if_neg (by omega),Int.toNat_natCast]
def tabVd:List (FuncId × GS):=[(103,gGetIntR),(74,gGetBytes),(104,gDgs),(106,gVer)]
theorem tabVd_ok:∀ x ∈ tabVd,FunS Tryz.prog tH2 x.1 x.2:=by
  intro x hx
  simp only [tabVd,List.mem_cons,List.not_mem_nil,or_false] at hx
  rcases hx with rfl | rfl | rfl | rfl
  · exact gGetIntR_ok
  · exact gGetBytes_ok f49
  · exact gDgs65
  · exact gVer68
def tbVd:Tab:=⟨[(94,gDig6),(105,gRec)],[]⟩
theorem tbVd_ok:TabX Tryz.prog tH2 tbVd:=by
  refine ⟨fun x h args r hr=>?_,fun x h=>by simp [tbVd] at h⟩
  simp only [tbVd,List.mem_cons,List.not_mem_nil,or_false] at h
  rcases h with rfl | rfl
  · obtain ⟨h1,h2,h3⟩:=gDig6_of (f:=94) (fun p msg i h1 h2 h3=>f67 p msg i h1 h2 h3) args r hr
    exact ⟨h1,h2,fun η=>by simp only [SV.renL,h3]⟩
  · obtain ⟨h1,h2,h3⟩:=gRec66 args r hr
    exact ⟨h1,h2,fun η=>by simp only [SV.renL,h3]⟩
def cVd:CallT:=callS tabVd (callX tbVd)
theorem cVd_ok:∀ f a m n K,cVd f a m n K→callT Tryz.prog tH2 f a m n K:=callS_ok tabVd_ok (callX_ok tbVd_ok)
theorem take_drop_bys (b:List UInt8) (o:Nat):List.take (b.drop o).length (List.drop o (bys b))=bys (b.drop o):=by
  simp only [bys,List.map_drop,List.length_drop]
  rw [List.take_of_length_le (by simp)]
set_option maxHeartbeats 8000000 in
theorem f42 (p msg sig:List UInt8) (ht:Int) (hp:p.length=16) (hm:msg.length≤2 ^ 40) (hs:sig.length≤2 ^ 30) :
    Fun Tryz.prog tH2 65 [.agg (bys p),.int .i64 ht,.str msg,.str sig] [] 0 (verT p ht msg sig) [] 0:=by
  refine fun_pureG none cVd cVd_ok ck65 (Nat.le_of_ble_eq_true rfl) (fun η=>by simp only [verT,SV.ren,SV.renL]) ?_
  conv in mkSF _ _=>(reduce;simp only [u8lit,UInt8.reduceOfNat,Int.reduceOfNat,Int.reduceNegSucc])
  rw [exG_mk]
  unfold verT
  have lp:(bys p).length=16:=by rw [len_bytes,hp]
  have tp:=take16 hp
  have ms:msg.map SV.byte=bys msg:=rfl
  have ss:sig.map SV.byte=bys sig:=rfl
  have ls:(bys sig).length=sig.length:=len_bytes sig
  have ts:=take_bytes sig
  by_cases h1:ht < 0
  · have hv:verS p ht msg sig=(0,1):=by unfold verS;rw [if_pos (Or.inl h1)]
    simp (config:={ maxSteps:=1000000 }) only [cVd,tabVd,tbVd,h1,hv,undef,reduceCtorEq,Nat.reduceEqDiff,Nat.reduceAdd,↓reduceIte,BC,↓PC]
  by_cases h2:ht > 6
  · have hv:verS p ht msg sig=(0,1):=by unfold verS;rw [if_pos (Or.inr h2)]
    simp (config:={ maxSteps:=1000000 }) only [cVd,tabVd,tbVd,h1,h2,hv,reduceCtorEq,Nat.reduceEqDiff,Nat.reduceAdd,↓reduceIte,BC,↓PC]
  by_cases h3:(msg.length:Int) > 1048576
  · have hv:verS p ht msg sig=(0,2):=by unfold verS;rw [if_neg (by omega),if_pos (by omega)]
    simp (config:={ maxSteps:=1000000 }) only [cVd,tabVd,tbVd,h1,h2,h3,hv,reduceCtorEq,Nat.reduceEqDiff,Nat.reduceAdd,↓reduceIte,BC,↓PC]
  obtain ⟨h,rfl⟩:∃ h:Nat,ht=(h:Int):=⟨ht.toNat,by omega⟩
  have hh:h≤6:=by omega
  have hv:=verS_in (p:=p) (msg:=msg) (sig:=sig) hh (by omega)
  rcases hx:decS sig with ⟨i,u1,e1⟩
  have hb40:sig.length≤2 ^ 40:=by omega
  have g1:gGetIntR [.slc 0 0 1 sig.length none] [(0,⟨.view,bys sig⟩)]=some (tup3 (i,u1,e1),[],1):=by
    unfold gGetIntR
    simp only [unB_bytes,capB,hb40,and_self,if_true,hx]
  simp only [sgOf,hx] at hv
  rcases dec_err hx with ⟨rfl,hR,hu,_⟩ | ⟨he,rfl,rfl⟩
  · rw [if_neg (by simp)] at hv
    have w1:(0:Int)≤(u1:Int):=by omega
    have w2:(u1:Int)≤(sig.length:Int):=by omega
    have lb1:sig.length - u1=(sig.drop u1).length:=by simp
    have tb1:=take_drop_bys sig u1
    have k1:u1+(sig.drop u1).length≤sig.length:=by simp;omega
    rcases hy:bytS (sig.drop u1) with ⟨s,u2,e2⟩
    have hb1:(sig.drop u1).length≤2 ^ 40:=by simp;omega
    have g2:gGetBytes [.slc 0 0 1 (sig.drop u1).length none] [(0,⟨.view,bys (sig.drop u1)⟩)]=some (tupB (s,u2,e2),[],1):=by
      unfold gGetBytes
      simp only [unB_bytes]
      rw [if_pos ⟨trivial,hb1⟩,hy]
    simp only [hy] at hv
    by_cases he2:e2=0
    · subst he2
      rw [if_neg (by simp)] at hv
      have hu2:=byt_ok hy
      have w3:IntKind.i64.wrap ((u1:Int)+(u2:Int))=((u1+u2:Nat):Int):=by rw [wrap64_eq (by simp at hu2;omega) (by simp at hu2;omega)];omega
      have w4:(0:Int)≤((u1+u2:Nat):Int):=by omega
      have w5:((u1+u2:Nat):Int)≤(sig.length:Int):=by simp at hu2;omega
      have lb2:sig.length - (u1+u2)=(sig.drop (u1+u2)).length:=by simp
      have tb2:=take_drop_bys sig (u1+u2)
      have k2:u1+u2+(sig.drop (u1+u2)).length≤sig.length:=by simp;simp at hu2;omega
      have g3:=gDgs_eq (b:=sig.drop (u1+u2)) (by simp;omega)
      generalize hB2:sig.drop (u1+u2)=b2 at *
      generalize hB1:sig.drop u1=b1 at *
      by_cases he3:cntE b2 16=0
      · rw [if_neg (by simpa using he3)] at hv
        obtain ⟨hu3,hxl⟩:=dgs_ok he3
        have w6:IntKind.i64.wrap (((u1+u2:Nat):Int)+(dgsU b2:Int))=((u1+u2+dgsU b2:Nat):Int):=by rw [wrap64_eq (by omega) (by omega)];omega
        simp only [dgsR,he3] at g3
        generalize dgsX b2=X at *
        generalize dgsU b2=u3 at *
        generalize dgsN b2=n at *
        have h0h:(0:Int)≤(h:Int):=by omega
        have hc:(u1+u2+u3≠sig.length∨i < 0∨i ≥ P2 h∨(n:Int)≠(h:Int))∨(u1+u2+u3=sig.length∧0≤i∧i < P2 h∧n=h):=by omega
        have hsh:=p2_shl hh
        have e64:=p2_le hh
        rcases hc with hc | ⟨c1,c2,c3,rfl⟩
        · rw [if_pos hc] at hv
          rcases Nat.eq_zero_or_pos n with hn | hn
          · simp only [nlS_z hn,nlM_z hn,nlN_z hn] at g3
            by_cases c1:u1+u2+u3=sig.length
            · by_cases c2:i < 0
              · have q1:(((u1+u2+u3:Nat):Int) != (sig.length:Int))=false:=by simp;omega
                simp (config:={ maxSteps:=1000000 }) only [cVd,tabVd,tbVd,h1,h2,h3,ss,↓g1,↓g2,↓g3,ls,ts,tup3,tupB,w1,w2,w3,w4,w5,w6,lb1,tb1,k1,lb2,tb2,k2,hv,Option.map_none,Int.le_refl,q1,c2,undef,Int.reduceBNe,reduceCtorEq,Nat.reduceEqDiff,Nat.reduceAdd,Nat.reduceSub,Nat.reduceLT,↓reduceIte,BC,↓PC]
              · by_cases c3:i ≥ P2 h
                · have q1:(((u1+u2+u3:Nat):Int) != (sig.length:Int))=false:=by simp;omega
                  simp (config:={ maxSteps:=1000000 }) only [cVd,tabVd,tbVd,h1,h2,h3,ss,↓g1,↓g2,↓g3,ls,ts,tup3,tupB,w1,w2,w3,w4,w5,w6,lb1,tb1,k1,lb2,tb2,k2,hv,h0h,Option.map_none,Int.le_refl,q1,c2,c3,hsh,undef,Int.reduceBNe,reduceCtorEq,Nat.reduceEqDiff,Nat.reduceAdd,Nat.reduceSub,Nat.reduceLT,↓reduceIte,BC,↓PC]
                · have q1:(((u1+u2+u3:Nat):Int) != (sig.length:Int))=false:=by simp;omega
                  have q2:((0:Int) != (h:Int))=true:=by simp;omega
                  simp (config:={ maxSteps:=1000000 }) only [cVd,tabVd,tbVd,h1,h2,h3,ss,↓g1,↓g2,↓g3,ls,ts,tup3,tupB,w1,w2,w3,w4,w5,w6,lb1,tb1,k1,lb2,tb2,k2,hv,h0h,Option.map_none,Int.le_refl,q1,q2,c2,c3,hsh,Int.reduceBNe,reduceCtorEq,Nat.reduceEqDiff,Nat.reduceAdd,Nat.reduceSub,Nat.reduceLT,↓reduceIte,BC,↓PC]
            · have q1:(((u1+u2+u3:Nat):Int) != (sig.length:Int))=true:=by simp;omega
              simp (config:={ maxSteps:=1000000 }) only [cVd,tabVd,tbVd,h1,h2,h3,ss,↓g1,↓g2,↓g3,ls,ts,tup3,tupB,w1,w2,w3,w4,w5,w6,lb1,tb1,k1,lb2,tb2,k2,hv,Option.map_none,Int.le_refl,q1,undef,Int.reduceBNe,reduceCtorEq,Nat.reduceEqDiff,Nat.reduceAdd,Nat.reduceSub,Nat.reduceLT,↓reduceIte,BC,↓PC]
          · simp only [nlS_p hn,nlM_p hn,nlN_p hn] at g3
            by_cases c1:u1+u2+u3=sig.length
            · by_cases c2:i < 0
              · have q1:(((u1+u2+u3:Nat):Int) != (sig.length:Int))=false:=by simp;omega
                simp (config:={ maxSteps:=1000000 }) only [cVd,tabVd,tbVd,h1,h2,h3,ss,↓g1,↓g2,↓g3,ls,ts,tup3,tupB,w1,w2,w3,w4,w5,w6,lb1,tb1,k1,lb2,tb2,k2,hv,Option.map_none,Int.le_refl,q1,c2,undef,Int.reduceBNe,reduceCtorEq,Nat.reduceEqDiff,Nat.reduceAdd,Nat.reduceSub,Nat.reduceLT,↓reduceIte,BC,↓PC]
              · by_cases c3:i ≥ P2 h
                · have q1:(((u1+u2+u3:Nat):Int) != (sig.length:Int))=false:=by simp;omega
                  simp (config:={ maxSteps:=1000000 }) only [cVd,tabVd,tbVd,h1,h2,h3,ss,↓g1,↓g2,↓g3,ls,ts,tup3,tupB,w1,w2,w3,w4,w5,w6,lb1,tb1,k1,lb2,tb2,k2,hv,h0h,Option.map_none,Int.le_refl,q1,c2,c3,hsh,undef,Int.reduceBNe,reduceCtorEq,Nat.reduceEqDiff,Nat.reduceAdd,Nat.reduceSub,Nat.reduceLT,↓reduceIte,BC,↓PC]
                · have q1:(((u1+u2+u3:Nat):Int) != (sig.length:Int))=false:=by simp;omega
                  have q2:((n:Int) != (h:Int))=true:=by simp;omega
                  simp (config:={ maxSteps:=1000000 }) only [cVd,tabVd,tbVd,h1,h2,h3,ss,↓g1,↓g2,↓g3,ls,ts,tup3,tupB,w1,w2,w3,w4,w5,w6,lb1,tb1,k1,lb2,tb2,k2,hv,h0h,Option.map_none,Int.le_refl,q1,q2,c2,c3,hsh,Int.reduceBNe,reduceCtorEq,Nat.reduceEqDiff,Nat.reduceAdd,Nat.reduceSub,Nat.reduceLT,↓reduceIte,BC,↓PC]
            · have q1:(((u1+u2+u3:Nat):Int) != (sig.length:Int))=true:=by simp;omega
              simp (config:={ maxSteps:=1000000 }) only [cVd,tabVd,tbVd,h1,h2,h3,ss,↓g1,↓g2,↓g3,ls,ts,tup3,tupB,w1,w2,w3,w4,w5,w6,lb1,tb1,k1,lb2,tb2,k2,hv,Option.map_none,Int.le_refl,q1,undef,Int.reduceBNe,reduceCtorEq,Nat.reduceEqDiff,Nat.reduceAdd,Nat.reduceSub,Nat.reduceLT,↓reduceIte,BC,↓PC]
        · rw [if_neg (by omega)] at hv
          obtain ⟨k,rfl⟩:∃ k:Nat,i=(k:Int):=⟨i.toNat,by omega⟩
          have q1:(((u1+u2+u3:Nat):Int) != (sig.length:Int))=false:=by simp;omega
          have c3':¬ (k:Int) ≥ P2 n:=by omega
          have c2':¬ (k:Int) < 0:=by omega
          have kn:k < 2 ^ n:=by have c9:((k:Nat):Int) < ((2 ^ n:Nat):Int):=c3;exact_mod_cast c9
          have gd:=gDig6_eq (p:=p) (msg:=msg) (i:=(k:Int)) hp (by omega) hR.1 hR.2
          have hD:=ofS_len 6 [p,encI (k:Int),msg]
          rw [Int.toNat_natCast] at hv
          generalize ofS 6 [p,encI (k:Int),msg]=D at *
          have lD:(bys D).length=16:=by rw [len_bytes,hD]
          have tD:=take16 hD
          by_cases h560:s.length=560
          · rw [if_neg (by omega)] at hv
            have gr:=gRec_yes hD h560
            have hL:(recS D s).length=16:=ofS_len _ _
            generalize recS D s=L at *
            have lL:(bys L).length=16:=by rw [len_bytes,hL]
            have tL:=take16 hL
            rcases Nat.eq_zero_or_pos n with hn | hn
            · subst hn
              obtain rfl:k=0:=by simpa using kn
              have gv:=gVer_z (d:=L) hp hL
              simp only [nlS_z,nlM_z,nlN_z] at g3
              have hi0:inK 0 L X 0=ofM 1 [L]:=rfl
              rw [hi0] at hv
              have hsh0:IntKind.i64.wrap (1 * 2 ^ (min 0 IntKind.i64.bits))=P2 0:=by decide
              have c30:¬ (0:Int) ≥ P2 0:=by decide
              have n0:((0:Nat):Int)=0:=rfl
              rw [n0] at hv gd
              generalize hB:(shS (ofM 1 [L]) == p)=B at *
              cases B
              · simp only [Bool.false_eq_true,if_false] at hv
                simp (config:={ maxSteps:=1000000 }) only [cVd,tabVd,tbVd,h3,ss,↓g1,↓g2,↓g3,ls,ts,tup3,tupB,w1,w2,w3,w4,w5,w6,lb1,tb1,k1,lb2,tb2,k2,hv,Option.map_none,Int.le_refl,q1,hsh0,c30,lp,tp,↓gd,↓gr,↓gv,lL,tL,n0,Int.reduceGT,Int.reduceBNe,reduceCtorEq,Nat.reduceEqDiff,Nat.reduceAdd,Nat.reduceSub,Nat.reduceLT,Int.reduceToNat,Int.reduceLT,↓reduceIte,upd,splice,BC,↓PC]
              · simp only [if_true] at hv
                simp (config:={ maxSteps:=1000000 }) only [cVd,tabVd,tbVd,h3,ss,↓g1,↓g2,↓g3,ls,ts,tup3,tupB,w1,w2,w3,w4,w5,w6,lb1,tb1,k1,lb2,tb2,k2,hv,Option.map_none,Int.le_refl,q1,hsh0,c30,lp,tp,↓gd,↓gr,↓gv,lL,tL,n0,Int.reduceGT,Int.reduceBNe,reduceCtorEq,Nat.reduceEqDiff,Nat.reduceAdd,Nat.reduceSub,Nat.reduceLT,Int.reduceToNat,Int.reduceLT,↓reduceIte,upd,splice,BC,↓PC]
            · have gv:=gVer_eq (d:=L) hp hh hn kn hL hxl
              simp only [nlS_p hn,nlM_p hn,nlN_p hn] at g3
              have q2:((n:Int) != (n:Int))=false:=by simp
              have lX:(bys X).length=16 * n:=by rw [len_bytes,hxl]
              have tX:List.take (16 * n) (bys X)=bys X:=List.take_of_length_le (by omega)
              have tX2:List.take (n * 16) (bys X)=bys X:=List.take_of_length_le (by omega)
              have b16:n * 16≤16 * n:=by omega
              generalize hB:(shS (inK k L X n) == p)=B at *
              cases B
              · simp only [Bool.false_eq_true,if_false] at hv
                simp (config:={ maxSteps:=1000000 }) only [cVd,tabVd,tbVd,h1,h2,h3,ss,↓g1,↓g2,↓g3,ls,ts,tup3,tupB,w1,w2,w3,w4,w5,w6,lb1,tb1,k1,lb2,tb2,k2,hv,h0h,Option.map_none,Int.le_refl,q1,q2,hsh,c2',c3',lp,tp,↓gd,↓gr,↓gv,lL,tL,lX,tX2,b16,Int.reduceBNe,reduceCtorEq,Nat.reduceEqDiff,Nat.reduceAdd,Nat.reduceSub,Nat.reduceLT,↓reduceIte,upd,splice,BC,↓PC]
              · simp only [if_true] at hv
                simp (config:={ maxSteps:=1000000 }) only [cVd,tabVd,tbVd,h1,h2,h3,ss,↓g1,↓g2,↓g3,ls,ts,tup3,tupB,w1,w2,w3,w4,w5,w6,lb1,tb1,k1,lb2,tb2,k2,hv,h0h,Option.map_none,Int.le_refl,q1,q2,hsh,c2',c3',lp,tp,↓gd,↓gr,↓gv,lL,tL,lX,tX2,b16,Int.reduceBNe,reduceCtorEq,Nat.reduceEqDiff,Nat.reduceAdd,Nat.reduceSub,Nat.reduceLT,↓reduceIte,upd,splice,BC,↓PC]
          · rw [if_pos h560] at hv
            have gr:=gRec_no hD h560
            have z16l:zero16.length=16:=by decide
            rcases Nat.eq_zero_or_pos n with hn | hn
            · simp only [nlS_z hn,nlM_z hn,nlN_z hn] at g3
              have q2:((0:Int) != (n:Int))=false:=by simp;omega
              simp (config:={ maxSteps:=1000000 }) only [cVd,tabVd,tbVd,h1,h2,h3,ss,↓g1,↓g2,↓g3,ls,ts,tup3,tupB,w1,w2,w3,w4,w5,w6,lb1,tb1,k1,lb2,tb2,k2,hv,h0h,Option.map_none,Int.le_refl,q1,q2,hsh,c2',c3',lp,tp,↓gd,↓gr,z16l,Int.reduceBNe,reduceCtorEq,Nat.reduceEqDiff,Nat.reduceAdd,Nat.reduceSub,Nat.reduceLT,↓reduceIte,upd,splice,BC,↓PC]
            · simp only [nlS_p hn,nlM_p hn,nlN_p hn] at g3
              have q2:((n:Int) != (n:Int))=false:=by simp
              simp (config:={ maxSteps:=1000000 }) only [cVd,tabVd,tbVd,h1,h2,h3,ss,↓g1,↓g2,↓g3,ls,ts,tup3,tupB,w1,w2,w3,w4,w5,w6,lb1,tb1,k1,lb2,tb2,k2,hv,h0h,Option.map_none,Int.le_refl,q1,q2,hsh,c2',c3',lp,tp,↓gd,↓gr,z16l,Int.reduceBNe,reduceCtorEq,Nat.reduceEqDiff,Nat.reduceAdd,Nat.reduceSub,Nat.reduceLT,↓reduceIte,upd,splice,BC,↓PC]
      · rw [if_pos he3] at hv
        have he':(cntE b2 16 != 0)=true:=by simpa using he3
        have z3:=gDgsz he3
        simp only [dgsR,nlS_z z3,nlM_z z3,nlN_z z3] at g3
        simp (config:={ maxSteps:=1000000 }) only [cVd,tabVd,tbVd,h1,h2,h3,ss,↓g1,↓g2,↓g3,ls,ts,tup3,tupB,w1,w2,w3,w4,w5,lb1,tb1,k1,lb2,tb2,k2,he',hv,Option.map_none,Int.le_refl,Int.reduceBNe,reduceCtorEq,Nat.reduceEqDiff,Nat.reduceAdd,Nat.reduceSub,Nat.reduceLT,↓reduceIte,BC,↓PC]
    · rw [if_pos he2] at hv
      have he':(e2 != 0)=true:=by simpa using he2
      generalize hB1:sig.drop u1=b1 at *
      simp (config:={ maxSteps:=1000000 }) only [cVd,tabVd,tbVd,h1,h2,h3,ss,↓g1,↓g2,ls,ts,tup3,tupB,w1,w2,lb1,tb1,k1,he',hv,Option.map_none,Int.le_refl,Int.reduceBNe,reduceCtorEq,Nat.reduceEqDiff,Nat.reduceAdd,Nat.reduceSub,Nat.reduceLT,↓reduceIte,BC,↓PC]
  · rw [if_pos he] at hv
    have he':(e1 != 0)=true:=by simpa using he
    simp (config:={ maxSteps:=1000000 }) only [cVd,tabVd,tbVd,h1,h2,h3,ss,↓g1,ls,ts,tup3,he',hv,reduceCtorEq,Nat.reduceEqDiff,Nat.reduceAdd,Nat.reduceSub,Nat.reduceLT,↓reduceIte,BC,↓PC]
end Go.Proofs.YtmhkkalbijbplaaGreatDoor

/- The reference's trees of signatures: the leaves. -/
namespace Go.Proofs.YtmhkkalbijbplaaGreatDoor
open Go Go.Sx
set_option maxRecDepth 100000
set_option linter.unusedVariables false
def lfF (seed:List UInt8) (k:Nat):List UInt8:=pubS (leafS seed (k:Int))
theorem lfF_len (seed:List UInt8) (k:Nat):(lfF seed k).length=16:=pubS_len _
def lvsS (seed:List UInt8) (h:Nat):List UInt8:=catS (lfF seed) (2 ^ h)
theorem lvsS_len (seed:List UInt8) (h:Nat):(lvsS seed h).length=16 * 2 ^ h:=catS_len (fun k _=>lfF_len seed k)
end Go.Proofs.YtmhkkalbijbplaaGreatDoor

/- The reference's trees of hashes: the proof. -/
namespace Go.Proofs.YtmhkkalbijbplaaGreatDoor
open Go Go.Sx
set_option maxRecDepth 100000
set_option linter.unusedVariables false
def prfS:Nat→List UInt8→Nat→List UInt8
  | 0,_,_=>[]
  | h+1,X,i=>if i < 2 ^ h then prfS h (X.take (16 * 2 ^ h)) i++rootS h (X.drop (16 * 2 ^ h)) else prfS h (X.drop (16 * 2 ^ h)) (i - 2 ^ h)++rootS h (X.take (16 * 2 ^ h))
theorem prfS_len:∀ (h:Nat) (X:List UInt8) (i:Nat),(prfS h X i).length=16 * h
  | 0,_,_=>rfl
  | h+1,X,i=>by
    unfold prfS
    split <;> (rw [List.length_append,prfS_len h,rootS_len];omega)
end Go.Proofs.YtmhkkalbijbplaaGreatDoor

/- Trees of hashes of the program: the proof, for trees of at most four leaves. -/
namespace Go.Proofs.YtmhkkalbijbplaaGreatDoor
open Go Go.Sx
set_option maxRecDepth 100000
set_option linter.unusedVariables false
def prtS (X:List UInt8) (s h:Nat):List UInt8:=rootS h ((X.drop (16 * s)).take (16 * 2 ^ h))
theorem prtS_len (X:List UInt8) (s h:Nat):(prtS X s h).length=16:=rootS_len _ _
theorem h124n (X:List UInt8) (N a b s h k:Nat) (hh:h≤6) (hk:2 ^ h=k) (hX:X.length=16 * N) (hs:s+k≤N) (hN:N≤64) :
    Fun Tryz.prog tH2 124 [.int .i64 (a:Int),.int .i64 (b:Int),.int .i64 (s:Int),.int .i64 (k:Int),.ptr 0 0,.ptr 1 0] [(0,⟨.own 40,[.val (.slice none 0 0)]⟩),(1,⟨.view,[.slc 2 0 16 N none]⟩),(2,⟨.view,bys X⟩)] 3 (.tup [])
      [(3,⟨.own 24,bys (prtS X s h)⟩),(0,⟨.own 40,[.slc 3 0 16 1 none]⟩)] 4:=by
  refine funM Tryz.f124 (by kernel_rfl) (by decide) ?_
  conv in mkSF _ _=>(reduce;simp only [u8lit,UInt8.reduceOfNat,Int.reduceOfNat,Int.reduceNegSucc])
  have lx:((X.drop (16 * s)).take (16 * k)).length=16 * k:=by rw [List.length_take,List.length_drop];omega
  have fr:=rootP h hh ((X.drop (16 * s)).take (16 * k)) (by rw [hk];exact lx)
  rw [hk] at fr
  have lr:=prtS_len X s h
  have t2:List.take (16 * k) (List.drop (s * 16) (bys X))=bys ((X.drop (16 * s)).take (16 * k)):=by rw [Nat.mul_comm s];simp [bys,List.map_take,List.map_drop]
  unfold prtS at *
  rw [hk] at lr ⊢
  generalize (X.drop (16 * s)).take (16 * k)=Y at *
  generalize rootS h Y=R at *
  have w1:IntKind.i64.wrap ((s:Int)+(k:Int))=((s+k:Nat):Int):=by rw [wrap64_eq (by omega) (by omega)];omega
  have c1:(0:Int)≤(s:Int):=by omega
  have c2:(s:Int)≤((s+k:Nat):Int):=by omega
  have c3:((s+k:Nat):Int)≤(N:Int):=by omega
  have c4:s+k - s=k:=by omega
  have c5:s * 16+16 * k≤16 * N:=by omega
  have c6:(s+k) * 16≤16 * N:=by omega
  have c7:s * 16≤16 * N:=by omega
  have c8:N * 16≤16 * N:=by omega
  simp (config:={ maxSteps:=1000000 }) only [w1,c1,c2,c3,c4,c8,hX,NV,↓NP,reduceCtorEq,Nat.reduceEqDiff,Nat.reduceAdd,↓reduceIte]
  refine callN [(2,s * 16)] fr ?_
  simp (config:={ maxSteps:=1000000 }) only [lx,lr,hX,t2,c5,NV,NJ,↓NP,reduceCtorEq,Nat.reduceEqDiff,Nat.reduceAdd,Nat.reduceSub,Nat.reduceMul,Nat.reduceLeDiff,Nat.reduceLT,↓reduceIte,upd,Nat.reducePow]
  exact ⟨[(0,0),(1,0),(2,0),(4,0)],by simp [NF,Nat.reduceAdd,Nat.reduceLeDiff,↓reduceIte,reduceCtorEq]⟩
theorem h124c (X O:List UInt8) (hO:O.length=16) (N a b s h k:Nat) (hh:h≤6) (hk:2 ^ h=k) (hX:X.length=16 * N) (hs:s+k≤N) (hN:N≤64) :
    Fun Tryz.prog tH2 124 [.int .i64 (a:Int),.int .i64 (b:Int),.int .i64 (s:Int),.int .i64 (k:Int),.ptr 0 0,.ptr 1 0] [(0,⟨.own 40,[.slc 3 0 16 1 none]⟩),(1,⟨.view,[.slc 2 0 16 N none]⟩),(2,⟨.view,bys X⟩),(3,⟨.own 24,bys O⟩)] 4 (.tup [])
      [(4,⟨.own 24,bys (O++prtS X s h)⟩),(0,⟨.own 40,[.slc 4 0 16 2 none]⟩)] 5:=by
  refine funM Tryz.f124 (by kernel_rfl) (by decide) ?_
  conv in mkSF _ _=>(reduce;simp only [u8lit,UInt8.reduceOfNat,Int.reduceOfNat,Int.reduceNegSucc])
  have lx:((X.drop (16 * s)).take (16 * k)).length=16 * k:=by rw [List.length_take,List.length_drop];omega
  have fr:=rootP h hh ((X.drop (16 * s)).take (16 * k)) (by rw [hk];exact lx)
  rw [hk] at fr
  have lr:=prtS_len X s h
  have t2:List.take (16 * k) (List.drop (s * 16) (bys X))=bys ((X.drop (16 * s)).take (16 * k)):=by rw [Nat.mul_comm s];simp [bys,List.map_take,List.map_drop]
  unfold prtS at *
  rw [hk] at lr ⊢
  generalize (X.drop (16 * s)).take (16 * k)=Y at *
  generalize rootS h Y=R at *
  have w1:IntKind.i64.wrap ((s:Int)+(k:Int))=((s+k:Nat):Int):=by rw [wrap64_eq (by omega) (by omega)];omega
  have c1:(0:Int)≤(s:Int):=by omega
  have c2:(s:Int)≤((s+k:Nat):Int):=by omega
  have c3:((s+k:Nat):Int)≤(N:Int):=by omega
  have c4:s+k - s=k:=by omega
  have c5:s * 16+16 * k≤16 * N:=by omega
  have c6:(s+k) * 16≤16 * N:=by omega
  have c7:s * 16≤16 * N:=by omega
  have c8:N * 16≤16 * N:=by omega
  simp (config:={ maxSteps:=1000000 }) only [w1,c1,c2,c3,c4,c8,hX,NV,↓NP,reduceCtorEq,Nat.reduceEqDiff,Nat.reduceAdd,↓reduceIte]
  refine callN [(2,s * 16)] fr ?_
  simp (config:={ maxSteps:=1000000 }) only [hO,lx,lr,hX,t2,c5,NV,NJ,↓NP,reduceCtorEq,Nat.reduceEqDiff,Nat.reduceAdd,Nat.reduceSub,Nat.reduceMul,Nat.reduceLeDiff,Nat.reduceLT,↓reduceIte,upd,Nat.reducePow]
  exact ⟨[(0,0),(1,0),(2,0),(3,0),(5,0)],by simp [NF,Nat.reduceAdd,Nat.reduceLeDiff,↓reduceIte,reduceCtorEq];simp [bys]⟩
theorem h123_20 (X:List UInt8) (hX:X.length=32):Fun Tryz.prog tH2 123 [.int .i64 2,.int .i64 0,.fn 124 [] [.ptr 0 0,.ptr 1 0]] [(0,⟨.own 40,[.val (.slice none 0 0)]⟩),(1,⟨.view,[.slc 2 0 16 2 none]⟩),(2,⟨.view,bys X⟩)] 3 (.tup []) [(3,⟨.own 24,bys (prtS X 1 0)⟩),(0,⟨.own 40,[.slc 3 0 16 1 none]⟩)] 4:=by
  refine funM Tryz.f123 (by kernel_rfl) (by decide) ?_
  conv in mkSF _ _=>(reduce;simp only [u8lit,UInt8.reduceOfNat,Int.reduceOfNat,Int.reduceNegSucc])
  have s0:Fun Tryz.prog tH2 110 [.int .i64 2] [] 0 (.int .i64 1) [] 0:=f106 (tS:=tH2) 0 (by decide)
  have g0:Fun Tryz.prog tH2 124 [.int .i64 0,.int .i64 1,.int .i64 1,.int .i64 1,.ptr 0 0,.ptr 1 0] _ 3 _ _ _:=h124n X 2 0 1 1 0 1 (by decide) rfl hX (by decide) (by decide)
  have l0:=prtS_len X 1 0
  generalize prtS X 1 0=R0 at *
  simp (config:={ maxSteps:=1000000 }) only [NV,↓NP,reduceCtorEq,Nat.reduceEqDiff,Nat.reduceAdd,↓reduceIte]
  rw [den_loop]
  refine den_unroll (fun _ _ _ _ _ h=>h) (callT_point _ _) 2 ?_
  simp (config:={ maxSteps:=1000000 }) only [NV,↓NP,Int.reduceGT,reduceCtorEq,Nat.reduceEqDiff,↓reduceIte]
  refine callP s0 ?_
  simp (config:={ maxSteps:=1000000 }) only [NV,↓NP,reduceCtorEq,Nat.reduceEqDiff,Int.reduceLT,Int.reduceLE,Int.reduceAdd,Int.reduceSub,Int.reduceNeg,↓reduceIte]
  refine callN [(0,0),(1,0),(2,0)] g0 ?_
  simp (config:={ maxSteps:=1000000 }) only [hX,NV,NJ,↓NP,Int.reduceGT,reduceCtorEq,Nat.reduceEqDiff,Nat.reduceAdd,Nat.reduceSub,Nat.reduceLT,↓reduceIte]
  exact ⟨[(0,0),(1,0),(2,0),(3,0)],by simp [NF,Nat.reduceAdd,Nat.reduceLeDiff,↓reduceIte,reduceCtorEq]⟩
theorem h123_21 (X:List UInt8) (hX:X.length=32):Fun Tryz.prog tH2 123 [.int .i64 2,.int .i64 1,.fn 124 [] [.ptr 0 0,.ptr 1 0]] [(0,⟨.own 40,[.val (.slice none 0 0)]⟩),(1,⟨.view,[.slc 2 0 16 2 none]⟩),(2,⟨.view,bys X⟩)] 3 (.tup []) [(3,⟨.own 24,bys (prtS X 0 0)⟩),(0,⟨.own 40,[.slc 3 0 16 1 none]⟩)] 4:=by
  refine funM Tryz.f123 (by kernel_rfl) (by decide) ?_
  conv in mkSF _ _=>(reduce;simp only [u8lit,UInt8.reduceOfNat,Int.reduceOfNat,Int.reduceNegSucc])
  have s0:Fun Tryz.prog tH2 110 [.int .i64 2] [] 0 (.int .i64 1) [] 0:=f106 (tS:=tH2) 0 (by decide)
  have g0:Fun Tryz.prog tH2 124 [.int .i64 1,.int .i64 1,.int .i64 0,.int .i64 1,.ptr 0 0,.ptr 1 0] _ 3 _ _ _:=h124n X 2 1 1 0 0 1 (by decide) rfl hX (by decide) (by decide)
  have l0:=prtS_len X 0 0
  generalize prtS X 0 0=R0 at *
  simp (config:={ maxSteps:=1000000 }) only [NV,↓NP,reduceCtorEq,Nat.reduceEqDiff,Nat.reduceAdd,↓reduceIte]
  rw [den_loop]
  refine den_unroll (fun _ _ _ _ _ h=>h) (callT_point _ _) 2 ?_
  simp (config:={ maxSteps:=1000000 }) only [NV,↓NP,Int.reduceGT,reduceCtorEq,Nat.reduceEqDiff,↓reduceIte]
  refine callP s0 ?_
  simp (config:={ maxSteps:=1000000 }) only [NV,↓NP,reduceCtorEq,Nat.reduceEqDiff,Int.reduceLT,Int.reduceLE,Int.reduceAdd,Int.reduceSub,Int.reduceNeg,↓reduceIte]
  refine callN [(0,0),(1,0),(2,0)] g0 ?_
  simp (config:={ maxSteps:=1000000 }) only [hX,NV,NJ,↓NP,Int.reduceGT,reduceCtorEq,Nat.reduceEqDiff,Nat.reduceAdd,Nat.reduceSub,Nat.reduceLT,Int.reduceLE,Int.reduceAdd,Int.reduceSub,Int.reduceNeg,↓reduceIte]
  exact ⟨[(0,0),(1,0),(2,0),(3,0)],by simp [NF,Nat.reduceAdd,Nat.reduceLeDiff,↓reduceIte,reduceCtorEq]⟩
theorem h123_40 (X:List UInt8) (hX:X.length=64):Fun Tryz.prog tH2 123 [.int .i64 4,.int .i64 0,.fn 124 [] [.ptr 0 0,.ptr 1 0]] [(0,⟨.own 40,[.val (.slice none 0 0)]⟩),(1,⟨.view,[.slc 2 0 16 4 none]⟩),(2,⟨.view,bys X⟩)] 3 (.tup []) [(3,⟨.own 24,bys (prtS X 2 1++prtS X 1 0)⟩),(0,⟨.own 40,[.slc 3 0 16 2 none]⟩)] 4:=by
  refine funM Tryz.f123 (by kernel_rfl) (by decide) ?_
  conv in mkSF _ _=>(reduce;simp only [u8lit,UInt8.reduceOfNat,Int.reduceOfNat,Int.reduceNegSucc])
  have s0:Fun Tryz.prog tH2 110 [.int .i64 4] [] 0 (.int .i64 2) [] 0:=f106 (tS:=tH2) 1 (by decide)
  have s1:Fun Tryz.prog tH2 110 [.int .i64 2] [] 0 (.int .i64 1) [] 0:=f106 (tS:=tH2) 0 (by decide)
  have g0:Fun Tryz.prog tH2 124 [.int .i64 0,.int .i64 2,.int .i64 2,.int .i64 2,.ptr 0 0,.ptr 1 0] _ 3 _ _ _:=h124n X 4 0 2 2 1 2 (by decide) rfl hX (by decide) (by decide)
  have l0:=prtS_len X 2 1
  have g1:Fun Tryz.prog tH2 124 [.int .i64 0,.int .i64 1,.int .i64 1,.int .i64 1,.ptr 0 0,.ptr 1 0] _ 4 _ _ _:=h124c X _ l0 4 0 1 1 0 1 (by decide) rfl hX (by decide) (by decide)
  have l1:=prtS_len X 1 0
  generalize prtS X 2 1=R0 at *
  generalize prtS X 1 0=R1 at *
  simp (config:={ maxSteps:=1000000 }) only [NV,↓NP,reduceCtorEq,Nat.reduceEqDiff,Nat.reduceAdd,↓reduceIte]
  rw [den_loop]
  refine den_unroll (fun _ _ _ _ _ h=>h) (callT_point _ _) 3 ?_
  simp (config:={ maxSteps:=1000000 }) only [NV,↓NP,Int.reduceGT,reduceCtorEq,Nat.reduceEqDiff,↓reduceIte]
  refine callP s0 ?_
  simp (config:={ maxSteps:=1000000 }) only [NV,↓NP,reduceCtorEq,Nat.reduceEqDiff,Int.reduceLT,Int.reduceLE,Int.reduceAdd,Int.reduceSub,Int.reduceNeg,↓reduceIte]
  refine callN [(0,0),(1,0),(2,0)] g0 ?_
  simp (config:={ maxSteps:=1000000 }) only [hX,NV,NJ,↓NP,Int.reduceGT,reduceCtorEq,Nat.reduceEqDiff,Nat.reduceAdd,Nat.reduceSub,Nat.reduceLT,↓reduceIte]
  refine callP s1 ?_
  simp (config:={ maxSteps:=1000000 }) only [NV,↓NP,reduceCtorEq,Nat.reduceEqDiff,Int.reduceLT,Int.reduceLE,Int.reduceAdd,Int.reduceSub,Int.reduceNeg,↓reduceIte]
  refine callN [(0,0),(1,0),(2,0),(3,0)] g1 ?_
  simp (config:={ maxSteps:=1000000 }) only [hX,NV,NJ,↓NP,Int.reduceGT,reduceCtorEq,Nat.reduceEqDiff,Nat.reduceAdd,Nat.reduceSub,Nat.reduceLT,↓reduceIte]
  exact ⟨[(0,0),(1,0),(2,0),(4,0)],by simp [NF,Nat.reduceAdd,Nat.reduceLeDiff,↓reduceIte,reduceCtorEq]⟩
theorem h123_41 (X:List UInt8) (hX:X.length=64):Fun Tryz.prog tH2 123 [.int .i64 4,.int .i64 1,.fn 124 [] [.ptr 0 0,.ptr 1 0]] [(0,⟨.own 40,[.val (.slice none 0 0)]⟩),(1,⟨.view,[.slc 2 0 16 4 none]⟩),(2,⟨.view,bys X⟩)] 3 (.tup []) [(3,⟨.own 24,bys (prtS X 2 1++prtS X 0 0)⟩),(0,⟨.own 40,[.slc 3 0 16 2 none]⟩)] 4:=by
  refine funM Tryz.f123 (by kernel_rfl) (by decide) ?_
  conv in mkSF _ _=>(reduce;simp only [u8lit,UInt8.reduceOfNat,Int.reduceOfNat,Int.reduceNegSucc])
  have s0:Fun Tryz.prog tH2 110 [.int .i64 4] [] 0 (.int .i64 2) [] 0:=f106 (tS:=tH2) 1 (by decide)
  have s1:Fun Tryz.prog tH2 110 [.int .i64 2] [] 0 (.int .i64 1) [] 0:=f106 (tS:=tH2) 0 (by decide)
  have g0:Fun Tryz.prog tH2 124 [.int .i64 0,.int .i64 2,.int .i64 2,.int .i64 2,.ptr 0 0,.ptr 1 0] _ 3 _ _ _:=h124n X 4 0 2 2 1 2 (by decide) rfl hX (by decide) (by decide)
  have l0:=prtS_len X 2 1
  have g1:Fun Tryz.prog tH2 124 [.int .i64 1,.int .i64 1,.int .i64 0,.int .i64 1,.ptr 0 0,.ptr 1 0] _ 4 _ _ _:=h124c X _ l0 4 1 1 0 0 1 (by decide) rfl hX (by decide) (by decide)
  have l1:=prtS_len X 0 0
  generalize prtS X 2 1=R0 at *
  generalize prtS X 0 0=R1 at *
  simp (config:={ maxSteps:=1000000 }) only [NV,↓NP,reduceCtorEq,Nat.reduceEqDiff,Nat.reduceAdd,↓reduceIte]
  rw [den_loop]
  refine den_unroll (fun _ _ _ _ _ h=>h) (callT_point _ _) 3 ?_
  simp (config:={ maxSteps:=1000000 }) only [NV,↓NP,Int.reduceGT,reduceCtorEq,Nat.reduceEqDiff,↓reduceIte]
  refine callP s0 ?_
  simp (config:={ maxSteps:=1000000 }) only [NV,↓NP,reduceCtorEq,Nat.reduceEqDiff,Int.reduceLT,Int.reduceLE,Int.reduceAdd,Int.reduceSub,Int.reduceNeg,↓reduceIte]
  refine callN [(0,0),(1,0),(2,0)] g0 ?_
  simp (config:={ maxSteps:=1000000 }) only [hX,NV,NJ,↓NP,Int.reduceGT,reduceCtorEq,Nat.reduceEqDiff,Nat.reduceAdd,Nat.reduceSub,Nat.reduceLT,↓reduceIte]
  refine callP s1 ?_
  simp (config:={ maxSteps:=1000000 }) only [NV,↓NP,reduceCtorEq,Nat.reduceEqDiff,Int.reduceLT,Int.reduceLE,Int.reduceAdd,Int.reduceSub,Int.reduceNeg,↓reduceIte]
  refine callN [(0,0),(1,0),(2,0),(3,0)] g1 ?_
  simp (config:={ maxSteps:=1000000 }) only [hX,NV,NJ,↓NP,Int.reduceGT,reduceCtorEq,Nat.reduceEqDiff,Nat.reduceAdd,Nat.reduceSub,Nat.reduceLT,Int.reduceLE,Int.reduceAdd,Int.reduceSub,Int.reduceNeg,↓reduceIte]
  exact ⟨[(0,0),(1,0),(2,0),(4,0)],by simp [NF,Nat.reduceAdd,Nat.reduceLeDiff,↓reduceIte,reduceCtorEq]⟩
theorem h123_42 (X:List UInt8) (hX:X.length=64):Fun Tryz.prog tH2 123 [.int .i64 4,.int .i64 2,.fn 124 [] [.ptr 0 0,.ptr 1 0]] [(0,⟨.own 40,[.val (.slice none 0 0)]⟩),(1,⟨.view,[.slc 2 0 16 4 none]⟩),(2,⟨.view,bys X⟩)] 3 (.tup []) [(3,⟨.own 24,bys (prtS X 0 1++prtS X 3 0)⟩),(0,⟨.own 40,[.slc 3 0 16 2 none]⟩)] 4:=by
  refine funM Tryz.f123 (by kernel_rfl) (by decide) ?_
  conv in mkSF _ _=>(reduce;simp only [u8lit,UInt8.reduceOfNat,Int.reduceOfNat,Int.reduceNegSucc])
  have s0:Fun Tryz.prog tH2 110 [.int .i64 4] [] 0 (.int .i64 2) [] 0:=f106 (tS:=tH2) 1 (by decide)
  have s1:Fun Tryz.prog tH2 110 [.int .i64 2] [] 0 (.int .i64 1) [] 0:=f106 (tS:=tH2) 0 (by decide)
  have g0:Fun Tryz.prog tH2 124 [.int .i64 2,.int .i64 2,.int .i64 0,.int .i64 2,.ptr 0 0,.ptr 1 0] _ 3 _ _ _:=h124n X 4 2 2 0 1 2 (by decide) rfl hX (by decide) (by decide)
  have l0:=prtS_len X 0 1
  have g1:Fun Tryz.prog tH2 124 [.int .i64 2,.int .i64 1,.int .i64 3,.int .i64 1,.ptr 0 0,.ptr 1 0] _ 4 _ _ _:=h124c X _ l0 4 2 1 3 0 1 (by decide) rfl hX (by decide) (by decide)
  have l1:=prtS_len X 3 0
  generalize prtS X 0 1=R0 at *
  generalize prtS X 3 0=R1 at *
  simp (config:={ maxSteps:=1000000 }) only [NV,↓NP,reduceCtorEq,Nat.reduceEqDiff,Nat.reduceAdd,↓reduceIte]
  rw [den_loop]
  refine den_unroll (fun _ _ _ _ _ h=>h) (callT_point _ _) 3 ?_
  simp (config:={ maxSteps:=1000000 }) only [NV,↓NP,Int.reduceGT,reduceCtorEq,Nat.reduceEqDiff,↓reduceIte]
  refine callP s0 ?_
  simp (config:={ maxSteps:=1000000 }) only [NV,↓NP,reduceCtorEq,Nat.reduceEqDiff,Int.reduceLT,Int.reduceLE,Int.reduceAdd,Int.reduceSub,Int.reduceNeg,↓reduceIte]
  refine callN [(0,0),(1,0),(2,0)] g0 ?_
  simp (config:={ maxSteps:=1000000 }) only [hX,NV,NJ,↓NP,Int.reduceGT,reduceCtorEq,Nat.reduceEqDiff,Nat.reduceAdd,Nat.reduceSub,Nat.reduceLT,Int.reduceLE,Int.reduceAdd,Int.reduceSub,Int.reduceNeg,↓reduceIte]
  refine callP s1 ?_
  simp (config:={ maxSteps:=1000000 }) only [NV,↓NP,reduceCtorEq,Nat.reduceEqDiff,Int.reduceLT,Int.reduceLE,Int.reduceAdd,Int.reduceSub,Int.reduceNeg,↓reduceIte]
  refine callN [(0,0),(1,0),(2,0),(3,0)] g1 ?_
  simp (config:={ maxSteps:=1000000 }) only [hX,NV,NJ,↓NP,Int.reduceGT,reduceCtorEq,Nat.reduceEqDiff,Nat.reduceAdd,Nat.reduceSub,Nat.reduceLT,↓reduceIte]
  exact ⟨[(0,0),(1,0),(2,0),(4,0)],by simp [NF,Nat.reduceAdd,Nat.reduceLeDiff,↓reduceIte,reduceCtorEq]⟩
theorem h123_43 (X:List UInt8) (hX:X.length=64):Fun Tryz.prog tH2 123 [.int .i64 4,.int .i64 3,.fn 124 [] [.ptr 0 0,.ptr 1 0]] [(0,⟨.own 40,[.val (.slice none 0 0)]⟩),(1,⟨.view,[.slc 2 0 16 4 none]⟩),(2,⟨.view,bys X⟩)] 3 (.tup []) [(3,⟨.own 24,bys (prtS X 0 1++prtS X 2 0)⟩),(0,⟨.own 40,[.slc 3 0 16 2 none]⟩)] 4:=by
  refine funM Tryz.f123 (by kernel_rfl) (by decide) ?_
  conv in mkSF _ _=>(reduce;simp only [u8lit,UInt8.reduceOfNat,Int.reduceOfNat,Int.reduceNegSucc])
  have s0:Fun Tryz.prog tH2 110 [.int .i64 4] [] 0 (.int .i64 2) [] 0:=f106 (tS:=tH2) 1 (by decide)
  have s1:Fun Tryz.prog tH2 110 [.int .i64 2] [] 0 (.int .i64 1) [] 0:=f106 (tS:=tH2) 0 (by decide)
  have g0:Fun Tryz.prog tH2 124 [.int .i64 2,.int .i64 2,.int .i64 0,.int .i64 2,.ptr 0 0,.ptr 1 0] _ 3 _ _ _:=h124n X 4 2 2 0 1 2 (by decide) rfl hX (by decide) (by decide)
  have l0:=prtS_len X 0 1
  have g1:Fun Tryz.prog tH2 124 [.int .i64 3,.int .i64 1,.int .i64 2,.int .i64 1,.ptr 0 0,.ptr 1 0] _ 4 _ _ _:=h124c X _ l0 4 3 1 2 0 1 (by decide) rfl hX (by decide) (by decide)
  have l1:=prtS_len X 2 0
  generalize prtS X 0 1=R0 at *
  generalize prtS X 2 0=R1 at *
  simp (config:={ maxSteps:=1000000 }) only [NV,↓NP,reduceCtorEq,Nat.reduceEqDiff,Nat.reduceAdd,↓reduceIte]
  rw [den_loop]
  refine den_unroll (fun _ _ _ _ _ h=>h) (callT_point _ _) 3 ?_
  simp (config:={ maxSteps:=1000000 }) only [NV,↓NP,Int.reduceGT,reduceCtorEq,Nat.reduceEqDiff,↓reduceIte]
  refine callP s0 ?_
  simp (config:={ maxSteps:=1000000 }) only [NV,↓NP,reduceCtorEq,Nat.reduceEqDiff,Int.reduceLT,Int.reduceLE,Int.reduceAdd,Int.reduceSub,Int.reduceNeg,↓reduceIte]
  refine callN [(0,0),(1,0),(2,0)] g0 ?_
  simp (config:={ maxSteps:=1000000 }) only [hX,NV,NJ,↓NP,Int.reduceGT,reduceCtorEq,Nat.reduceEqDiff,Nat.reduceAdd,Nat.reduceSub,Nat.reduceLT,Int.reduceLE,Int.reduceAdd,Int.reduceSub,Int.reduceNeg,↓reduceIte]
  refine callP s1 ?_
  simp (config:={ maxSteps:=1000000 }) only [NV,↓NP,reduceCtorEq,Nat.reduceEqDiff,Int.reduceLT,Int.reduceLE,Int.reduceAdd,Int.reduceSub,Int.reduceNeg,↓reduceIte]
  refine callN [(0,0),(1,0),(2,0),(3,0)] g1 ?_
  simp (config:={ maxSteps:=1000000 }) only [hX,NV,NJ,↓NP,Int.reduceGT,reduceCtorEq,Nat.reduceEqDiff,Nat.reduceAdd,Nat.reduceSub,Nat.reduceLT,Int.reduceLE,Int.reduceAdd,Int.reduceSub,Int.reduceNeg,↓reduceIte]
  exact ⟨[(0,0),(1,0),(2,0),(4,0)],by simp [NF,Nat.reduceAdd,Nat.reduceLeDiff,↓reduceIte,reduceCtorEq]⟩
end Go.Proofs.YtmhkkalbijbplaaGreatDoor

/- Trees of hashes of the program: the proof for an element, trees of at most four leaves. -/
namespace Go.Proofs.YtmhkkalbijbplaaGreatDoor
open Go Go.Sx
set_option maxRecDepth 100000
set_option linter.unusedVariables false
variable {tS:List (Nat × List SV)}
theorem dropB (b:List UInt8) (k:Nat):List.drop k (bys b)=bys (b.drop k):=by simp [bys]
theorem h125_1 (A:List UInt8) (hA:A.length=16):Fun Tryz.prog tS 125 [.slc 0 0 16 1 none] [(0,⟨.own 24,bys A⟩)] 1 (.tup []) [(0,⟨.own 24,bys A⟩)] 1:=by
  refine funM Tryz.f125 (by kernel_rfl) (by decide) ?_
  conv in mkSF _ _=>(reduce;simp only [u8lit,UInt8.reduceOfNat,Int.reduceOfNat,Int.reduceNegSucc])
  simp (config:={ maxSteps:=1000000 }) only [NV,↓NP,reduceCtorEq,Nat.reduceEqDiff,Int.reduceLE,Int.reduceSub,Int.reduceNeg,↓reduceIte]
  rw [den_loop]
  refine den_unroll (fun _ _ _ _ _ h=>h) (callT_point _ _) 1 ?_
  simp (config:={ maxSteps:=1000000 }) only [NV,↓NP,reduceCtorEq,Nat.reduceEqDiff,Int.reduceLT,↓reduceIte]
  exact ⟨[(0,0)],by simp [NF,↓reduceIte]⟩
theorem h125_2 (A B:List UInt8) (hA:A.length=16) (hB:B.length=16):Fun Tryz.prog tS 125 [.slc 0 0 16 2 none] [(0,⟨.own 24,bys (A++B)⟩)] 1 (.tup []) [(0,⟨.own 24,bys (B++A)⟩)] 1:=by
  refine funM Tryz.f125 (by kernel_rfl) (by decide) ?_
  conv in mkSF _ _=>(reduce;simp only [u8lit,UInt8.reduceOfNat,Int.reduceOfNat,Int.reduceNegSucc])
  have lA:(A++B).length=32:=by simp;omega
  have t0:List.take 16 (bys (A++B))=bys A:=by rw [takeB,List.take_left' hA]
  have t1:List.take 16 (List.drop 16 (bys (A++B)))=bys B:=by rw [dropB,takeB,List.drop_left' hA,List.take_of_length_le (by omega)]
  have p0:splice (bys (A++B)) 0 (bys B)=bys (B++B):=by
    unfold splice
    rw [List.take_zero,List.nil_append,Nat.zero_add,len_bytes,hB,dropB,List.drop_left' hA,show bys B++bys B=bys (B++B) by simp [bys]]
  have p1:splice (bys (B++B)) 16 (bys A)=bys (B++A):=by
    unfold splice
    rw [takeB,List.take_left' hB,len_bytes,hA,dropB,List.drop_of_length_le (by simp;omega)]
    simp [bys]
  have lB:(B++B).length=32:=by simp;omega
  simp (config:={ maxSteps:=1000000 }) only [NV,↓NP,reduceCtorEq,Nat.reduceEqDiff,Int.reduceLE,Int.reduceSub,Int.reduceNeg,↓reduceIte]
  rw [den_loop]
  refine den_unroll (fun _ _ _ _ _ h=>h) (callT_point _ _) 2 ?_
  simp (config:={ maxSteps:=1000000 }) only [hA,hB,lA,t0,t1,p0,p1,lB,NV,↓NP,Nat.reduceBEq,reduceCtorEq,Nat.reduceEqDiff,Nat.reduceAdd,Nat.reduceMul,Nat.reduceLeDiff,Nat.reduceLT,Int.reduceToNat,Int.reduceLT,Int.reduceLE,Int.reduceAdd,Int.reduceSub,Int.reduceNeg,evW,baseD,stBlk,touch,clear,untouched,updsW,↓reduceIte,upd]
  exact ⟨[(0,0)],by simp [NF,↓reduceIte]⟩
theorem h86_1 (X:List UInt8) (hX:X.length=16):Fun Tryz.prog tH2 86 [.slc 0 0 16 1 none,.int .i64 0] [(0,⟨.view,bys X⟩)] 1 (.tup [.val (.slice none 0 0),.int .i64 0]) [] 1:=by
  refine funM Tryz.f86 (by kernel_rfl) (by decide) ?_
  conv in mkSF _ _=>(reduce;simp only [u8lit,UInt8.reduceOfNat,Int.reduceOfNat,Int.reduceNegSucc])
  have fd:Fun Tryz.prog tH2 123 [.int .i64 1,.int .i64 0,.fn 124 [] [.ptr 0 0,.ptr 1 0]] [(0,⟨.own 40,[.val (.slice none 0 0)]⟩),(1,⟨.view,[.slc 2 0 16 1 none]⟩),(2,⟨.view,bys X⟩)] 3 (.tup []) [(0,⟨.own 40,[.val (.slice none 0 0)]⟩)] 3:=by
    refine funM Tryz.f123 (by kernel_rfl) (by decide) ?_
    conv in mkSF _ _=>(reduce;simp only [u8lit,UInt8.reduceOfNat,Int.reduceOfNat,Int.reduceNegSucc])
    simp (config:={ maxSteps:=1000000 }) only [NV,↓NP,reduceCtorEq,Nat.reduceEqDiff,Nat.reduceAdd,↓reduceIte]
    rw [den_loop]
    refine den_unroll (fun _ _ _ _ _ h=>h) (callT_point _ _) 1 ?_
    simp (config:={ maxSteps:=1000000 }) only [NV,↓NP,Int.reduceGT,reduceCtorEq,Nat.reduceEqDiff,↓reduceIte]
    exact ⟨[(0,0),(1,0),(2,0)],by simp [NF,Nat.reduceAdd,↓reduceIte]⟩
  have f0:Fun Tryz.prog tH2 125 [.val (.slice none 0 0)] [] 0 (.tup []) [] 0:=by
    refine funM Tryz.f125 (by kernel_rfl) (by decide) ?_
    conv in mkSF _ _=>(reduce;simp only [u8lit,UInt8.reduceOfNat,Int.reduceOfNat,Int.reduceNegSucc])
    simp (config:={ maxSteps:=1000000 }) only [NV,↓NP,reduceCtorEq,Nat.reduceEqDiff,Int.reduceLE,Int.reduceSub,Int.reduceNeg,↓reduceIte]
    rw [den_loop]
    refine den_unroll (fun _ _ _ _ _ h=>h) (callT_point _ _) 1 ?_
    simp (config:={ maxSteps:=1000000 }) only [NV,↓NP,reduceCtorEq,Nat.reduceEqDiff,Int.reduceLT,Int.reduceNeg,↓reduceIte]
    exact ⟨[],by simp [NF]⟩
  simp (config:={ maxSteps:=1000000 }) only [NV,↓NP,Int.reduceGE,reduceCtorEq,Nat.reduceEqDiff,Nat.reduceAdd,Int.reduceLT,↓reduceIte]
  refine callN [(2,0),(1,0),(0,0)] fd ?_
  simp (config:={ maxSteps:=1000000 }) only [hX,NV,NJ,↓NP,reduceCtorEq,Nat.reduceEqDiff,Nat.reduceAdd,Nat.reduceSub,Nat.reduceLT,↓reduceIte]
  refine callN [] f0 ?_
  simp (config:={ maxSteps:=1000000 }) only [NV,NJ,↓NP,Nat.reduceEqDiff,↓reduceIte]
  exact ⟨[(0,0)],by simp [NF]⟩
theorem h86_20 (X:List UInt8) (hX:X.length=32):Fun Tryz.prog tH2 86 [.slc 0 0 16 2 none,.int .i64 0] [(0,⟨.view,bys X⟩)] 1 (.tup [.slc 1 0 16 1 none,.int .i64 0]) [(1,⟨.own 24,bys (prtS X 1 0)⟩)] 2:=by
  refine funM Tryz.f86 (by kernel_rfl) (by decide) ?_
  conv in mkSF _ _=>(reduce;simp only [u8lit,UInt8.reduceOfNat,Int.reduceOfNat,Int.reduceNegSucc])
  have fd:=h123_20 X hX
  have l0:=prtS_len X 1 0
  generalize prtS X 1 0=R0 at *
  have fv:=h125_1 (tS:=tH2) R0 l0
  simp (config:={ maxSteps:=1000000 }) only [NV,↓NP,Int.reduceGE,reduceCtorEq,Nat.reduceEqDiff,Nat.reduceAdd,Int.reduceLT,↓reduceIte]
  refine callN [(2,0),(1,0),(0,0)] fd ?_
  simp (config:={ maxSteps:=1000000 }) only [hX,NV,NJ,↓NP,reduceCtorEq,Nat.reduceEqDiff,Nat.reduceAdd,Nat.reduceSub,Nat.reduceLT,↓reduceIte]
  refine callN [(3,0)] fv ?_
  simp (config:={ maxSteps:=1000000 }) only [NV,NJ,↓NP,reduceCtorEq,Nat.reduceEqDiff,Nat.reduceSub,Nat.reduceLT,↓reduceIte]
  exact ⟨[(0,0),(3,0)],by simp [NF,Nat.reduceAdd,Nat.reduceLeDiff,↓reduceIte]⟩
theorem h86_21 (X:List UInt8) (hX:X.length=32):Fun Tryz.prog tH2 86 [.slc 0 0 16 2 none,.int .i64 1] [(0,⟨.view,bys X⟩)] 1 (.tup [.slc 1 0 16 1 none,.int .i64 0]) [(1,⟨.own 24,bys (prtS X 0 0)⟩)] 2:=by
  refine funM Tryz.f86 (by kernel_rfl) (by decide) ?_
  conv in mkSF _ _=>(reduce;simp only [u8lit,UInt8.reduceOfNat,Int.reduceOfNat,Int.reduceNegSucc])
  have fd:=h123_21 X hX
  have l0:=prtS_len X 0 0
  generalize prtS X 0 0=R0 at *
  have fv:=h125_1 (tS:=tH2) R0 l0
  simp (config:={ maxSteps:=1000000 }) only [NV,↓NP,Int.reduceGE,reduceCtorEq,Nat.reduceEqDiff,Nat.reduceAdd,Int.reduceLT,↓reduceIte]
  refine callN [(2,0),(1,0),(0,0)] fd ?_
  simp (config:={ maxSteps:=1000000 }) only [hX,NV,NJ,↓NP,reduceCtorEq,Nat.reduceEqDiff,Nat.reduceAdd,Nat.reduceSub,Nat.reduceLT,↓reduceIte]
  refine callN [(3,0)] fv ?_
  simp (config:={ maxSteps:=1000000 }) only [NV,NJ,↓NP,reduceCtorEq,Nat.reduceEqDiff,Nat.reduceSub,Nat.reduceLT,↓reduceIte]
  exact ⟨[(0,0),(3,0)],by simp [NF,Nat.reduceAdd,Nat.reduceLeDiff,↓reduceIte]⟩
theorem h86_40 (X:List UInt8) (hX:X.length=64):Fun Tryz.prog tH2 86 [.slc 0 0 16 4 none,.int .i64 0] [(0,⟨.view,bys X⟩)] 1 (.tup [.slc 1 0 16 2 none,.int .i64 0]) [(1,⟨.own 24,bys (prtS X 1 0++prtS X 2 1)⟩)] 2:=by
  refine funM Tryz.f86 (by kernel_rfl) (by decide) ?_
  conv in mkSF _ _=>(reduce;simp only [u8lit,UInt8.reduceOfNat,Int.reduceOfNat,Int.reduceNegSucc])
  have fd:=h123_40 X hX
  have l0:=prtS_len X 2 1
  generalize prtS X 2 1=R0 at *
  have l1:=prtS_len X 1 0
  generalize prtS X 1 0=R1 at *
  have fv:=h125_2 (tS:=tH2) R0 R1 l0 l1
  simp (config:={ maxSteps:=1000000 }) only [NV,↓NP,Int.reduceGE,reduceCtorEq,Nat.reduceEqDiff,Nat.reduceAdd,Int.reduceLT,↓reduceIte]
  refine callN [(2,0),(1,0),(0,0)] fd ?_
  simp (config:={ maxSteps:=1000000 }) only [hX,NV,NJ,↓NP,reduceCtorEq,Nat.reduceEqDiff,Nat.reduceAdd,Nat.reduceSub,Nat.reduceLT,↓reduceIte]
  refine callN [(3,0)] fv ?_
  simp (config:={ maxSteps:=1000000 }) only [NV,NJ,↓NP,reduceCtorEq,Nat.reduceEqDiff,Nat.reduceSub,Nat.reduceLT,↓reduceIte]
  exact ⟨[(0,0),(3,0)],by simp [NF,Nat.reduceAdd,Nat.reduceLeDiff,↓reduceIte]⟩
theorem h86_41 (X:List UInt8) (hX:X.length=64):Fun Tryz.prog tH2 86 [.slc 0 0 16 4 none,.int .i64 1] [(0,⟨.view,bys X⟩)] 1 (.tup [.slc 1 0 16 2 none,.int .i64 0]) [(1,⟨.own 24,bys (prtS X 0 0++prtS X 2 1)⟩)] 2:=by
  refine funM Tryz.f86 (by kernel_rfl) (by decide) ?_
  conv in mkSF _ _=>(reduce;simp only [u8lit,UInt8.reduceOfNat,Int.reduceOfNat,Int.reduceNegSucc])
  have fd:=h123_41 X hX
  have l0:=prtS_len X 2 1
  generalize prtS X 2 1=R0 at *
  have l1:=prtS_len X 0 0
  generalize prtS X 0 0=R1 at *
  have fv:=h125_2 (tS:=tH2) R0 R1 l0 l1
  simp (config:={ maxSteps:=1000000 }) only [NV,↓NP,Int.reduceGE,reduceCtorEq,Nat.reduceEqDiff,Nat.reduceAdd,Int.reduceLT,↓reduceIte]
  refine callN [(2,0),(1,0),(0,0)] fd ?_
  simp (config:={ maxSteps:=1000000 }) only [hX,NV,NJ,↓NP,reduceCtorEq,Nat.reduceEqDiff,Nat.reduceAdd,Nat.reduceSub,Nat.reduceLT,↓reduceIte]
  refine callN [(3,0)] fv ?_
  simp (config:={ maxSteps:=1000000 }) only [NV,NJ,↓NP,reduceCtorEq,Nat.reduceEqDiff,Nat.reduceSub,Nat.reduceLT,↓reduceIte]
  exact ⟨[(0,0),(3,0)],by simp [NF,Nat.reduceAdd,Nat.reduceLeDiff,↓reduceIte]⟩
theorem h86_42 (X:List UInt8) (hX:X.length=64):Fun Tryz.prog tH2 86 [.slc 0 0 16 4 none,.int .i64 2] [(0,⟨.view,bys X⟩)] 1 (.tup [.slc 1 0 16 2 none,.int .i64 0]) [(1,⟨.own 24,bys (prtS X 3 0++prtS X 0 1)⟩)] 2:=by
  refine funM Tryz.f86 (by kernel_rfl) (by decide) ?_
  conv in mkSF _ _=>(reduce;simp only [u8lit,UInt8.reduceOfNat,Int.reduceOfNat,Int.reduceNegSucc])
  have fd:=h123_42 X hX
  have l0:=prtS_len X 0 1
  generalize prtS X 0 1=R0 at *
  have l1:=prtS_len X 3 0
  generalize prtS X 3 0=R1 at *
  have fv:=h125_2 (tS:=tH2) R0 R1 l0 l1
  simp (config:={ maxSteps:=1000000 }) only [NV,↓NP,Int.reduceGE,reduceCtorEq,Nat.reduceEqDiff,Nat.reduceAdd,Int.reduceLT,↓reduceIte]
  refine callN [(2,0),(1,0),(0,0)] fd ?_
  simp (config:={ maxSteps:=1000000 }) only [hX,NV,NJ,↓NP,reduceCtorEq,Nat.reduceEqDiff,Nat.reduceAdd,Nat.reduceSub,Nat.reduceLT,↓reduceIte]
  refine callN [(3,0)] fv ?_
  simp (config:={ maxSteps:=1000000 }) only [NV,NJ,↓NP,reduceCtorEq,Nat.reduceEqDiff,Nat.reduceSub,Nat.reduceLT,↓reduceIte]
  exact ⟨[(0,0),(3,0)],by simp [NF,Nat.reduceAdd,Nat.reduceLeDiff,↓reduceIte]⟩
theorem h86_43 (X:List UInt8) (hX:X.length=64):Fun Tryz.prog tH2 86 [.slc 0 0 16 4 none,.int .i64 3] [(0,⟨.view,bys X⟩)] 1 (.tup [.slc 1 0 16 2 none,.int .i64 0]) [(1,⟨.own 24,bys (prtS X 2 0++prtS X 0 1)⟩)] 2:=by
  refine funM Tryz.f86 (by kernel_rfl) (by decide) ?_
  conv in mkSF _ _=>(reduce;simp only [u8lit,UInt8.reduceOfNat,Int.reduceOfNat,Int.reduceNegSucc])
  have fd:=h123_43 X hX
  have l0:=prtS_len X 0 1
  generalize prtS X 0 1=R0 at *
  have l1:=prtS_len X 2 0
  generalize prtS X 2 0=R1 at *
  have fv:=h125_2 (tS:=tH2) R0 R1 l0 l1
  simp (config:={ maxSteps:=1000000 }) only [NV,↓NP,Int.reduceGE,reduceCtorEq,Nat.reduceEqDiff,Nat.reduceAdd,Int.reduceLT,↓reduceIte]
  refine callN [(2,0),(1,0),(0,0)] fd ?_
  simp (config:={ maxSteps:=1000000 }) only [hX,NV,NJ,↓NP,reduceCtorEq,Nat.reduceEqDiff,Nat.reduceAdd,Nat.reduceSub,Nat.reduceLT,↓reduceIte]
  refine callN [(3,0)] fv ?_
  simp (config:={ maxSteps:=1000000 }) only [NV,NJ,↓NP,reduceCtorEq,Nat.reduceEqDiff,Nat.reduceSub,Nat.reduceLT,↓reduceIte]
  exact ⟨[(0,0),(3,0)],by simp [NF,Nat.reduceAdd,Nat.reduceLeDiff,↓reduceIte]⟩
theorem prf_case (X:List UInt8):(X.length=32→prtS X 1 0=prfS 1 X 0∧prtS X 0 0=prfS 1 X 1) ∧
    (X.length=64→prtS X 1 0++prtS X 2 1=prfS 2 X 0∧prtS X 0 0++prtS X 2 1=prfS 2 X 1∧prtS X 3 0++prtS X 0 1=prfS 2 X 2∧prtS X 2 0++prtS X 0 1=prfS 2 X 3):=by
  have a1:∀ {n:Nat} {Y:List UInt8},Y.length=n→Y.take n=Y:=fun h=>List.take_of_length_le (by omega)
  refine ⟨fun h=>?_,fun h=>?_⟩
  · have b1:(X.drop 16).take 16=X.drop 16:=a1 (by simp;omega)
    constructor <;> simp [prfS,prtS,b1]
  · have b1:(X.drop 32).take 32=X.drop 32:=a1 (by simp;omega)
    have b2:((X.take 32).drop 16)=(X.drop 16).take 16:=by rw [List.drop_take]
    have b3:(X.drop 48).take 16=X.drop 48:=a1 (by simp;omega)
    refine ⟨?_,?_,?_,?_⟩ <;> simp [prfS,prtS,b1,b2,b3,List.take_take,List.drop_drop]
theorem h86 (X:List UInt8) (h i:Nat) (hh:h≤2) (hX:X.length=16 * 2 ^ h) (hi:i < 2 ^ h) :
    Fun Tryz.prog tH2 86 [.slc 0 0 16 (2 ^ h) none,.int .i64 (i:Int)] [(0,⟨.view,bys X⟩)] 1 (.tup [nlS 1 16 h,.int .i64 0]) (nlM 1 24 (bys (prfS h X i)) [] h) (nlN 1 h):=by
  obtain ⟨p1,p2⟩:=prf_case X
  obtain rfl | rfl | rfl:h=0∨h=1∨h=2:=by omega
  · obtain rfl:i=0:=by simpa using hi
    exact h86_1 X hX
  · obtain ⟨q0,q1⟩:=p1 hX
    obtain rfl | rfl:i=0∨i=1:=by omega
    · rw [← q0];exact h86_20 X hX
    · rw [← q1];exact h86_21 X hX
  · obtain ⟨q0,q1,q2,q3⟩:=p2 hX
    obtain rfl | rfl | rfl | rfl:i=0∨i=1∨i=2∨i=3:=by omega
    · rw [← q0];exact h86_40 X hX
    · rw [← q1];exact h86_41 X hX
    · rw [← q2];exact h86_42 X hX
    · rw [← q3];exact h86_43 X hX
end Go.Proofs.YtmhkkalbijbplaaGreatDoor

/- Trees of signatures: the leaves, by a range over a function. -/
namespace Go.Proofs.YtmhkkalbijbplaaGreatDoor
open Go Go.Sx Go.RowKit Go.Shelf
set_option maxRecDepth 100000
set_option linter.unusedSimpArgs false
set_option linter.unusedVariables false
attribute [local go_sem] Oper.semAt_some
abbrev Dig:={ d:List UInt8 // d.length=16 }
def vb (d:List UInt8):List Value:=d.map fun c=>Value.int .u8 (c.toNat:Int)
def vD (x:Dig):Value:=.agg (vb x.1).toArray
structure Bel (x n₀:Nat) (A B:World):Prop where
  os:B.os=A.os
  tape:B.tape=A.tape
  output:B.output=A.output
  size:A.heap.size≤B.heap.size
  block:∀ k,k < n₀→k≠x→B.heap[k]?=A.heap[k]?
theorem calls_plain {f:FuncId} {args:List SV} {r:SV} (F:Fun Tryz.prog tH2 f args [] 0 r [] 0) {w:World} {vals:List Value} (hT:TabOk tH2 w) (hv:SV.isL noEnv args vals) (hf:r.flat=true) :
    Calls Tryz.prog f vals.toArray w fun e w'=>∃ x,e=.returned x∧r.is noEnv x∧w.grownBy w' none:=by
  refine (F.run noEnv w vals ?_ ?_ hv).mono ?_
  · refine ⟨fun i B h=>by simp at h,fun i B j B' L L' b h=>by simp at h,fun i _=>rfl,fun i B L b h=>by simp at h,Nat.le_refl _,fun _ _ _=>rfl,fun _ _=>rfl,rfl,rfl⟩
  · exact ⟨hT,fun g cs _ ho=>by obtain ⟨i,B,L,h,_⟩:=ho;simp at h⟩
  · rintro e w' ⟨x,ρ',rfl,_,h2,h3⟩
    refine ⟨x,rfl,SV.is_flat _ _ hf h2,⟨congrArg Prod.fst h3.side.1,congrArg Prod.snd h3.side.1,h3.side.2,h3.size,fun b hb _=>h3.frame b hb (fun ho=>by obtain ⟨i,B,L,h,_⟩:=ho;simp at h)⟩⟩
theorem is_bys {d:List UInt8} {x:Value} (h:(SV.agg (bys d)).is noEnv x):x=.agg (vb d).toArray:=by
  simp only [SV.is] at h
  obtain ⟨l,h1,_,rfl⟩:=h
  have:∀ (d:List UInt8) (l:List Value),SV.isL noEnv (bys d) l→l=vb d:=by
    intro d
    induction d with
    | nil=>intro l h;simpa [bys,SV.isL,vb] using h
    | cons c d ih=>
      intro l h
      simp only [bys,List.map_cons,SV.isL,SV.byte,SV.is] at h
      obtain ⟨y,ys,rfl,rfl,h⟩:=h
      rw [ih ys h];rfl
  rw [this d l h1]
theorem tab_kept {w w':World} (h:TabOk tH2 w) (hb:∀ k,k < 2→w'.heap[k]?=w.heap[k]?):TabOk tH2 w':=by
  intro g cs hm
  have hg:g < 2:=by
    simp only [tH2,List.mem_cons,List.not_mem_nil,or_false] at hm
    rcases hm with hm | hm <;> (cases hm;decide)
  obtain ⟨h1,h2⟩:=h g cs hm
  have hb:=hb g hg
  refine ⟨?_,fun j v hj=>?_⟩
  · have:w.heap[g]?≠none:=by rw [Array.getElem?_eq_getElem h1];simp
    rw [← hb] at this
    rcases Nat.lt_or_ge g w'.heap.size with q | q
    · exact q
    · exact absurd (Array.getElem?_eq_none q) this
  · obtain ⟨x,q1,q2,q3⟩:=h2 j v hj
    exact ⟨x,by rw [cell?_of_heap hb];exact q1,q2,q3⟩
def lfD (seed:List UInt8) (k:Nat):Dig:=⟨lfF seed k,lfF_len seed k⟩
def lfL (seed:List UInt8) (n:Nat):List Dig:=(List.range n).map (lfD seed)
theorem lfL_succ (seed:List UInt8) (n:Nat):lfL seed (n+1)=lfL seed n++[lfD seed n]:=by simp [lfL,List.range_succ]
theorem lfL_len (seed:List UInt8) (n:Nat):(lfL seed n).length=n:=by simp [lfL]
set_option maxHeartbeats 4000000 in
theorem keys1_in (seed:List UInt8) (h N:Nat) (hN:2 ^ h=N) (hh:h≤6) (hs:seed.length≤64) (l Bh Bs x₀ n₀:Nat) (hn₀:2≤n₀) (hx₀:2≤x₀) (hxh:Bh≠x₀) (hxs:Bs≠x₀) (J Jx:List Dig→World→Prop) (W:World) (hT:TabOk tH2 W)
    (hJ:AbidesFrom W.heap.size J)
    (hY:∀ pre x W,J pre W→pre.length < N→YieldAt Fence.wide 10 Tryz.prog l #[vD x] W fun e W'=>
      (e=.returned (.bool true)∧J (pre++[x]) W'∧Bel x₀ n₀ W W')∨(e=.returned (.bool false)∧Jx (pre++[x]) W'))
    (hBh:Bh < n₀) (hBs:Bs < n₀) (hch:W.cell? ⟨Bh,0,none⟩=some (.int .i64 (h:Int))) (hcs:W.cell? ⟨Bs,0,none⟩=some (.string ⟨seed.toArray⟩)) (hsz:n₀≤W.heap.size) (h0:J [] W) :
    CallsIn Fence.wide 11 Tryz.prog 147 #[.func (.yield l) #[] #[],.pointer (some ⟨Bh,0,none⟩),.pointer (some ⟨Bs,0,none⟩)] W fun e W'=>(∃ v,e=.returned v) ∧
      ((∃ ys,ys=lfL seed N∧J ys W')∨(∃ pre,True∧Jx pre W')):=by
  refine callsIn_of_wp Tryz.func147 rfl trivial ?_ rfl
  simp only [Tryz.ntmps147,List.size_toArray,Nat.reduceAdd,Nat.reduceSub,Array.replicate_succ,Array.replicate_zero,List.push_toArray,List.append_toArray,BB]
  gi_wp2
  have p1:N≤64:=by have:=(p2_le hh).1;unfold P2 at this;omega
  have hw:RowKit.wrap64 ((2:Int) ^ h)=(N:Int):=by
    have:h=0∨h=1∨h=2∨h=3∨h=4∨h=5∨h=6:=by omega
    rcases this with rfl | rfl | rfl | rfl | rfl | rfl | rfl <;> (subst hN;unfold RowKit.wrap64;decide)
  rw [hw]
  gi_loopw [7] (fun p wr=>∃ k:Nat,p=.int .i64 (k:Int)∧k≤N∧J (lfL seed k) wr∧Bel x₀ n₀ W wr) (fun p _=>match p with | .int _ n=>N - n.toNat | _=>0)
  case atStart=>
    exact ⟨0,rfl,Nat.zero_le _,h0,⟨rfl,rfl,rfl,Nat.le_refl _,fun _ _ _=>rfl⟩⟩
  case round=>
    obtain ⟨k,rfl,hk,hJk,hB⟩:=hrel
    by_cases hlt:k < N
    · have hcl:(k:Int) < (N:Int):=by omega
      have wi:IntKind.i64.wrap ((k:Int)+1)=((k+1:Nat):Int):=by rw [wrap64_eq (by omega) (by omega)];omega
      have cS:wr.cell? ⟨Bs,0,none⟩=some (.string ⟨seed.toArray⟩):=(cell?_of_heap (hB.block Bs hBs hxs)).trans hcs
      have hT1:TabOk tH2 wr:=tab_kept hT fun k hk=>hB.block k (by omega) (by omega)
      gi_wp2_with (first
        | (refine ⟨trivial,?_⟩
           gi_at_call 88
           refine (callsIn_wide.2 (calls_plain (h88 seed (k:Int) hs) (vals:=[.string ⟨seed.toArray⟩,.int .i64 (k:Int)]) hT1 (by simp [SV.isL,SV.is]) rfl)).mono ?_
           rintro e w1 ⟨x,rfl,hx,hg1⟩
           obtain rfl:x=.string ⟨(leafS seed (k:Int)).toArray⟩:=by simpa [SV.is] using hx
           have hT2:TabOk tH2 w1:=tab_kept hT1 fun k hk=>hg1.block k (by have:=hB.size;omega) (by simp))
        | (refine ⟨trivial,?_⟩
           gi_at_call 148
           refine (callsIn_wide.2 (calls_plain (h148 (leafS seed (k:Int)) (by rw [leafS_len];decide)) (vals:=[.string ⟨(leafS seed (k:Int)).toArray⟩]) hT2 (by simp [SV.isL,SV.is]) (by simp only [SV.flat,flat_bytes]))).mono ?_
           rintro e w2 ⟨x,rfl,hx,hg2⟩
           obtain rfl:=is_bys hx
           have hJ2:J (lfL seed k) w2:=hJ _ _ _ none (hJ _ _ _ none hJk hg1 (by simp)) hg2 (by simp)
           obtain ⟨fn,tmps,assign,body,hy,hR⟩:=hY (lfL seed k) (lfD seed k) w2 hJ2 (by rw [lfL_len];exact hlt)
           dsimp only [vD,lfD,lfF] at hy))
      refine hR.mono ?_
      rintro e W3 (⟨rfl,hJ3,hk3⟩ | ⟨rfl,hJx3⟩)
      · gi_wp2
        go_roundw
        case rel=>
          refine ⟨k+1,by simp,by omega,by rw [lfL_succ];exact hJ3,⟨hk3.os.trans (hg2.os.trans (hg1.os.trans hB.os)),hk3.tape.trans (hg2.tape.trans (hg1.tape.trans hB.tape)),hk3.output.trans (hg2.output.trans (hg1.output.trans hB.output)),?_,fun q hq hqx=>?_⟩⟩
          · have:=hB.size;have:=hg1.size;have:=hg2.size;have:=hk3.size;omega
          · have:=hB.size;have:=hg1.size
            rw [hk3.block q hq hqx,hg2.block q (by omega) (by simp),hg1.block q (by omega) (by simp),hB.block q hq hqx]
        case measure=>
          show N - ((k:Int)+1).toNat < N - (k:Int).toNat
          omega
      · gi_wp2
        refine bodyPost_ret (results_none rfl _ _ _) rfl ?_
        first
          | exact ⟨⟨_,rfl⟩,.inr ⟨_,trivial,hJx3⟩⟩
          | exact ⟨⟨_,rfl⟩,.inr ⟨_,hJx3⟩⟩
    · obtain rfl:k=N:=by omega
      gi_wp2
      go_end0
      exact ⟨⟨_,rfl⟩,.inl ⟨_,rfl,hJk⟩⟩
theorem keys_in (seed:List UInt8) (h:Int) (w:World) :
    CallsIn Fence.wide 11 Tryz.prog 118 #[.string ⟨seed.toArray⟩,.int .i64 h] w fun e w'=>e=.returned (.func (.func 147) #[] #[.pointer (some ⟨w.heap.size+1,0,none⟩),.pointer (some ⟨w.heap.size,0,none⟩)]) ∧
      w'=(w.alloc (.cells #[.string ⟨seed.toArray⟩] 9)).alloc (.cells #[.int .i64 h] 3):=by
  refine callsIn_of_wp Tryz.func118 rfl trivial ?_ rfl
  simp only [Tryz.ntmps118,List.size_toArray,Nat.reduceAdd,Nat.reduceSub,Array.replicate_succ,Array.replicate_zero,List.push_toArray,List.append_toArray,BB]
  gi_wp2
  go_ret
  exact ⟨rfl,rfl⟩
theorem Bel.refl (x n:Nat) (w:World):Bel x n w w:=⟨rfl,rfl,rfl,Nat.le_refl _,fun _ _ _=>rfl⟩
theorem Bel.trans {x n:Nat} {A B C:World} (h:Bel x n A B) (k:Bel x n B C):Bel x n A C:=
  ⟨k.os.trans h.os,k.tape.trans h.tape,k.output.trans h.output,Nat.le_trans h.size k.size,fun i hi hx=>(k.block i hi hx).trans (h.block i hi hx)⟩
theorem Bel.grown {x n:Nat} {A B:World} {row:Option Nat} (h:A.grownBy B row) (hn:n≤A.heap.size) (hr:∀ r,row=some r→n≤r∨r=x):Bel x n A B:=
  ⟨h.os,h.tape,h.output,h.size,fun k hk hx=>h.block k (by omega) (fun e=>by rcases hr k e.symm with q | q <;> omega)⟩
def flD (l:List Dig):List Value:=(l.map fun x=>vb x.1).flatten
theorem Tryz.info24:(Tryz.prog.info? 24).map (fun i=>(i.zero,i.size,i.bytes))=some (some (.agg (Array.replicate 16 (.int .u8 0))),16,16):=by kernel_rfl
theorem flD_len (l:List Dig):(flD l).length=l.length * 16:=by
  unfold flD
  induction l with
  | nil=>rfl
  | cons x l ih=>
    have:=x.2
    simp only [List.map_cons,List.flatten_cons,List.length_append,vb,List.length_map,List.length_cons] at ih ⊢
    omega
theorem flD_snoc (l:List Dig) (x:Dig):flD (l++[x])=flD l++vb x.1:=by simp [flD]
theorem vb_one (d:List UInt8):(vb d).toArray.all (·.oneCell')=true:=by simp [vb,Value.oneCell']
theorem list16 {α:Type} (l:List α) (h:l.length=16):∃ c0 c1 c2 c3 c4 c5 c6 c7 c8 c9 c10 c11 c12 c13 c14 c15,l=[c0,c1,c2,c3,c4,c5,c6,c7,c8,c9,c10,c11,c12,c13,c14,c15]:=by
  match l,h with
  | [c0,c1,c2,c3,c4,c5,c6,c7,c8,c9,c10,c11,c12,c13,c14,c15],_=>exact ⟨_,_,_,_,_,_,_,_,_,_,_,_,_,_,_,_,rfl⟩
theorem row_new (W:World) (xs:List Value) (t:TypeId) (j:Nat) (u:Value) (h:xs[j]?=some u):(W.alloc (.cells xs.toArray t)).cell? ((⟨W.heap.size,0,none⟩:Addr).add j)=some u:=by
  have hadd:(⟨W.heap.size,0,none⟩:Addr).add j=⟨W.heap.size,j,none⟩:=by unfold Addr.add;split <;> simp_all
  rw [hadd,cell_of_row _ _ j xs.toArray t (0,0) (heap_alloc_last W _)]
  simpa using h
theorem keys_stops (seed:List UInt8) (h N:Nat) (hN:2 ^ h=N) (hh:h≤6) (hs:seed.length≤64) (b:Nat) (w:World) (hT:TabOk tH2 w) (h2:2≤b) (hw:w.heap.size=b+3)
    (bS:Boxed w (b+1) 9 (.string ⟨seed.toArray⟩)) (bH:Boxed w (b+1+1) 3 (.int .i64 (h:Int))) :
    SeqStopsK Fence.wide 11 Tryz.prog 147 #[.pointer (some ⟨b+1+1,0,none⟩),.pointer (some ⟨b+1,0,none⟩)] (fun x:Dig=>#[vD x]) (Bel b (b+3)) (fun ys=>ys=lfL seed N) (fun _=>True) N w:=fun l J Jx W hW hJ _ hY h0=>
  keys1_in seed h N hN hh hs l (b+1+1) (b+1) b (b+3) (by omega) h2 (by omega) (by omega) J Jx W (tab_kept hT fun k hk=>hW.block k (by omega)) hJ hY (by omega) (by omega)
    ((hW.cell (p:=⟨b+1+1,0,none⟩) (by show b+1+1 < _;omega)).trans bH.cell) ((hW.cell (p:=⟨b+1,0,none⟩) (by show b+1 < _;omega)).trans bS.cell) (by have:=hW.size;omega) h0
set_option maxHeartbeats 4000000 in
theorem leaves_in (seed:List UInt8) (h N:Nat) (hN:2 ^ h=N) (hh:h≤6) (hs:seed.length≤64) (w:World) (hT:TabOk tH2 w) (h2:2≤w.heap.size) :
    CallsIn Fence.wide 12 Tryz.prog 82 #[.string ⟨seed.toArray⟩,.int .i64 (h:Int)] w fun e W'=>∃ v,e=.returned v∧W'.ownsRow w.heap.size 24 16 v N (flD (lfL seed N))∧Below w.heap.size w W':=by
  have p1:N≤64:=by have:=(p2_le hh).1;unfold P2 at this;omega
  obtain ⟨i0,hi,hz0,hz1,hz2⟩:=info_parts Tryz.info24
  refine callsIn_of_wp_marks Tryz.func82 rfl trivial ?_ rfl
  simp only [Tryz.ntmps82,List.size_toArray,Nat.reduceAdd,Nat.reduceSub,Array.replicate_succ,Array.replicate_zero,List.push_toArray,List.append_toArray,BB]
  gi_wp2_with (refine ⟨trivial,?_⟩;gi_at_call 118;refine (keys_in seed (h:Int) _).mono ?_;rintro e w' ⟨rfl,rfl⟩)
  have bO:=((Boxed.new w 40 (.slice none 0 0)).alloc (.cells #[.string ⟨seed.toArray⟩] 9)).alloc (.cells #[.int .i64 (h:Int)] 3)
  have bS:=(Boxed.new (w.alloc (.cells #[.slice none 0 0] 40)) 9 (.string ⟨seed.toArray⟩)).alloc (.cells #[.int .i64 (h:Int)] 3)
  have bH:=Boxed.new ((w.alloc (.cells #[.slice none 0 0] 40)).alloc (.cells #[.string ⟨seed.toArray⟩] 9)) 3 (.int .i64 (h:Int))
  simp only [World.size_alloc] at bO bS bH
  have hB0:Below w.heap.size w (((w.alloc (.cells #[.slice none 0 0] 40)).alloc (.cells #[.string ⟨seed.toArray⟩] 9)).alloc (.cells #[.int .i64 (h:Int)] 3)):=(((Below.refl _ w).alloc (Nat.le_refl _) _).alloc (by simp) _).alloc (by simp;omega) _
  have hsz:(((w.alloc (.cells #[.slice none 0 0] 40)).alloc (.cells #[.string ⟨seed.toArray⟩] 9)).alloc (.cells #[.int .i64 (h:Int)] 3)).heap.size=w.heap.size+3:=by simp
  obtain ⟨W0,hW0⟩:∃ W0,((w.alloc (.cells #[.slice none 0 0] 40)).alloc (.cells #[.string ⟨seed.toArray⟩] 9)).alloc (.cells #[.int .i64 (h:Int)] 3)=W0:=⟨_,rfl⟩
  rw [hW0] at bO bS bH hB0 hsz ⊢
  clear hW0
  refine wpIn_rangeFunc_ownH rfl (by decide) (gf:=147) (lb:=#[.pointer (some ⟨w.heap.size+1+1,0,none⟩),.pointer (some ⟨w.heap.size+1,0,none⟩)]) rfl trivial (enters_of Tryz.func147 (by kernel_rfl) rfl)
    (keys_stops seed h N hN hh hs w.heap.size W0 (tab_kept hT fun k hk=>hB0.block k (by omega)) h2 hsz bS bH) Bel.trans
    (fun W l o o' hl hW _ _=>Bel.grown (grownBy_putObj' W l o') (by have:=(Array.getElem?_eq_some_iff.1 hW).1;omega) (fun r e=>by cases e;omega)) (Below.refl _ _) (fun _=>rfl)
    (fun pre W=>(((∃ v,Boxed W w.heap.size 40 v∧W.ownsRow w.heap.size 24 16 v pre.length (flD pre)∧True)∧Boxed W (w.heap.size+1) 9 (.string ⟨seed.toArray⟩))∧Boxed W (w.heap.size+1+1) 3 (.int .i64 (h:Int)))∧Below w.heap.size w W)
    (fun _ _ _=>False)
    (OwnFrom.and (OwnFrom.and (OwnFrom.and (Own.from (holdsRow_own w.heap.size w.heap.size 40 24 16 (fun pre:List Dig=>pre.length) (fun pre=>flD pre) (fun _ _=>True)) _) (Own.from (boxed_own _ _ _) _)) (Own.from (boxed_own _ _ _) _)) (ownFrom_below (Nat.le_refl _) (by omega)))
    (fun _ _ _ _ _ hs _ _=>hs)
    ⟨⟨⟨⟨_,bO,World.ownsRow_nil _ _ _ _,trivial⟩,bS⟩,bH⟩,hB0⟩
    (fun x a' W=>∃ Bx,w.heap.size+3≤Bx∧W.heap[Bx]?=some (.cells (vb x.1).toArray 24)∧a'={ tmps:=#[.string ⟨seed.toArray⟩,.int .i64 (h:Int),undef,undef,.slice none 0 0,.pointer (some ⟨w.heap.size,0,none⟩),.pointer (some ⟨Bx,0,none⟩),.string ⟨seed.toArray⟩,.int .i64 (h:Int),.func (.func 147) #[] #[.pointer (some ⟨w.heap.size+1+1,0,none⟩),.pointer (some ⟨w.heap.size+1,0,none⟩)],vD x,undef,undef,undef,undef,undef],defers:=[] })
    (fun x a' _ X Y row hs hg hr=>by
      obtain ⟨Bx,h1,h2,h3⟩:=hs
      refine ⟨Bx,h1,(hg.block Bx (Array.getElem?_eq_some_iff.1 h2).1 (fun e=>?_)).trans h2,h3⟩
      obtain ⟨_,o,ho,hc⟩:=hr Bx e.symm
      rw [h2] at ho;cases ho;cases hc)
    ?assign ?body ?done ?stop
  case assign=>
    rintro l pre x W K ⟨⟨⟨⟨v,bO1,hr1,_⟩,bS1⟩,bH1⟩,hB1⟩ hK
    have hv:(vb x.1).toArray.size=16:=by simp [vb,x.2]
    dsimp only [vD] at hK ⊢
    gi_wp2
    have hst:=run_storeCells_new (P:=Tryz.prog) W 24 (Array.replicate 16 (.int .u8 0)) (vb x.1).toArray (by rw [hi,Option.map_some,hz1,hv]) (by simp [hv]) (vb_one x.1)
    simp only [Array.replicate_succ,Array.replicate_zero,List.push_toArray,List.nil_append,List.cons_append] at hst
    rw [hst]
    gi_wp2
    exact hK _ _ ((KeepsOthers.alloc _ _).from _) (Bel.grown (World.grownBy_alloc _ _ none) (by have:=hB1.size;have:=bH1.lt;omega) (by simp)) ⟨⟨⟨⟨v,bO1.alloc _,hr1.alloc _,trivial⟩,bS1.alloc _⟩,bH1.alloc _⟩,hB1.alloc hB1.size _⟩ ⟨W.heap.size,by have:=bH1.lt;omega,heap_alloc_last W _,rfl⟩
  case body=>
    rintro l pre x a' W hl ⟨r,hr⟩ ⟨⟨⟨⟨v,bO1,hr1,_⟩,bS1⟩,bH1⟩,hB1⟩ ⟨Bx,hBx,bX,rfl⟩ hlt
    have cO:=bO1.cell
    have hpl:=flD_len pre
    have hv:(vb x.1).length=16:=by simp [vb,x.2]
    have h1:=vb_one x.1
    have hsn:=flD_snoc pre x
    have hmx:(64:Nat)+1≤maxLen:=by decide
    dsimp only [vD]
    generalize vb x.1=xs at *
    obtain ⟨c0,c1,c2,c3,c4,c5,c6,c7,c8,c9,c10,c11,c12,c13,c14,c15,rfl⟩:=list16 xs hv
    have k0:W.cell? ⟨Bx,0,none⟩=some c0:=by simp [World.cell?,bX]
    have k1:W.cell? ⟨Bx,1,none⟩=some c1:=by simp [World.cell?,bX]
    have k2:W.cell? ⟨Bx,2,none⟩=some c2:=by simp [World.cell?,bX]
    have k3:W.cell? ⟨Bx,3,none⟩=some c3:=by simp [World.cell?,bX]
    have k4:W.cell? ⟨Bx,4,none⟩=some c4:=by simp [World.cell?,bX]
    have k5:W.cell? ⟨Bx,5,none⟩=some c5:=by simp [World.cell?,bX]
    have k6:W.cell? ⟨Bx,6,none⟩=some c6:=by simp [World.cell?,bX]
    have k7:W.cell? ⟨Bx,7,none⟩=some c7:=by simp [World.cell?,bX]
    have k8:W.cell? ⟨Bx,8,none⟩=some c8:=by simp [World.cell?,bX]
    have k9:W.cell? ⟨Bx,9,none⟩=some c9:=by simp [World.cell?,bX]
    have k10:W.cell? ⟨Bx,10,none⟩=some c10:=by simp [World.cell?,bX]
    have k11:W.cell? ⟨Bx,11,none⟩=some c11:=by simp [World.cell?,bX]
    have k12:W.cell? ⟨Bx,12,none⟩=some c12:=by simp [World.cell?,bX]
    have k13:W.cell? ⟨Bx,13,none⟩=some c13:=by simp [World.cell?,bX]
    have k14:W.cell? ⟨Bx,14,none⟩=some c14:=by simp [World.cell?,bX]
    have k15:W.cell? ⟨Bx,15,none⟩=some c15:=by simp [World.cell?,bX]
    gi_wp2_with (gi_at_builtin;refine wpListIn_append_own _ rfl _ _ 40 rfl w.heap.size 24 i0 _ 16 16 Tryz.underlying40 hi hz0 hz1 hz2 rfl (by decide) _ _ _ rfl (hr1.alloc _) ⟨W.heap.size,0,none⟩ 1 1 [c0,c1,c2,c3,c4,c5,c6,c7,c8,c9,c10,c11,c12,c13,c14,c15] rfl rfl (fun j u hu=>row_new W [c0,c1,c2,c3,c4,c5,c6,c7,c8,c9,c10,c11,c12,c13,c14,c15] 24 j u hu) (fun u hu=>by simpa using List.all_eq_true.1 (by simpa only [List.all_toArray] using h1) u hu) (by omega) (by omega) (by have:=hB1.size;simp;omega) ?_;intro v' w1 hown' hgrow _;obtain ⟨g',cap',rfl⟩:=ownsRow_succ hown';obtain ⟨hv1,hv2,hr2,hk2,hb2⟩:=bO1.appended (by decide) hr1 hB1.size (Nat.le_refl _) hown' hgrow;have hc1:=hv1.cell;have hf1:=hv1.frozen)
    have kS:=((bS1.alloc _).kept hgrow (bS1.not_row (by decide) hr1)).other (B':=w.heap.size) (by omega) (.slice (some { block:=g',off:=0 }) (pre.length+1) cap')
    have kH:=((bH1.alloc _).kept hgrow (bH1.not_row (by decide) hr1)).other (B':=w.heap.size) (by omega) (.slice (some { block:=g',off:=0 }) (pre.length+1) cap')
    refine ⟨hk2.from _,⟨hb2.os,hb2.tape,hb2.output,hb2.size,fun k hk hx=>?_⟩,⟨⟨⟨⟨_,hv2,by rw [hsn];simpa using hr2,trivial⟩,kS⟩,kH⟩,hB1.trans hb2⟩⟩
    rcases Nat.lt_or_ge k w.heap.size with q | q
    · exact hb2.block k q
    · obtain rfl | rfl:k=w.heap.size+1∨k=w.heap.size+1+1:=by omega
      · exact (show _=_ from kS).trans (show _=_ from bS1).symm
      · exact (show _=_ from kH).trans (show _=_ from bH1).symm
  case done=>
    rintro D zs W hD rfl ⟨⟨⟨⟨v,bO1,hr1,_⟩,bS1⟩,bH1⟩,hB1⟩ hK
    have hc:=bO1.cell
    gi_wp2
    refine ⟨by simp,.inl ⟨_,_,rfl,run_takeDeferred hK,?_⟩⟩
    exact ⟨_,results_tmp rfl _ _ _,v,rfl,by rw [lfL_len] at hr1;exact ownsRow_putObj hr1 _ hK rfl,hB1.trans (belowK_b (w:=w) (Nat.le_refl _) W D _ _ (by omega) hK rfl rfl)⟩
  case stop=>
    rintro D c pre W _ _ h _
    exact h.elim
theorem flD_lvs (seed:List UInt8) (h:Nat):flD (lfL seed (2 ^ h))=vb (lvsS seed h):=by
  simp [flD,lfL,lfD,lvsS,catS,vb,List.map_map,Function.comp_def,List.map_flatten]
theorem h82 (seed:List UInt8) (h:Nat) (hh:h≤6) (hs:seed.length≤64):Fun Tryz.prog tH2 82 [.str seed,.int .i64 (h:Int)] [] 0 (.slc 0 0 16 (2 ^ h) none) [(0,⟨.own 24,bys (lvsS seed h)⟩)] 1:=by
  refine ⟨by kernel_rfl,Nat.le_add_left _ _,?_⟩
  intro ρ w vals hM hC hv
  obtain rfl:vals=[.string ⟨seed.toArray⟩,.int .i64 (h:Int)]:=by simpa [SV.isL,SV.is] using hv
  have h2:2≤w.heap.size:=by
    have:=(hC.tab 1 _ (by simp only [ctxOf,tH2,List.mem_cons];right;left;rfl)).1
    show 1 < w.heap.size
    exact this
  refine (callsIn_wide.1 (leaves_in seed h (2 ^ h) rfl hh hs w hC.tab h2)).mono ?_
  rintro e W' ⟨v,rfl,⟨hl,hr⟩,hB⟩
  have hN:0 < 2 ^ h:=Nat.two_pow_pos h
  rcases hr with ⟨_,h0⟩ | ⟨g,cap,cur,rfl,hg,hb,hc,hm,hcs,hx⟩
  · omega
  · rw [flD_lvs] at hx hl
    have hlv:=lvsS_len seed h
    have hlt:=(Array.getElem?_eq_some_iff.1 hb).1
    refine ⟨_,fun i=>if i=0 then some ⟨some g,0,cap * 16⟩ else none,rfl,?_,?_,?_⟩
    · intro i L hi
      have:=hM.fresh i (Nat.zero_le _)
      rw [this] at hi;cases hi
    · refine ⟨⟨some g,0,cap * 16⟩,some ⟨g,0,none⟩,by simp,?_,.inl rfl⟩
      simp
    · have hmem:∀ i B,(i,B) ∈ [((0:Nat),(⟨.own 24,bys (lvsS seed h)⟩:Blk))]→i=0∧B=⟨.own 24,bys (lvsS seed h)⟩:=by
        intro i B hi
        simpa using hi
      refine ⟨?_,?_,?_,?_,hB.size,fun b hb1 _=>hB.block b hb1,fun i hi=>absurd hi (Nat.not_lt_zero _),by rw [hB.os,hB.tape];exact ⟨rfl,hB.output⟩⟩
      · intro i B hi
        obtain ⟨rfl,rfl⟩:=hmem i B hi
        refine ⟨⟨some g,0,cap * 16⟩,by simp,hlt,?_,rfl,?_,cur,(0,0),hb,hcs,.inl rfl⟩
        · intro j u hj
          simp only [bys,List.getElem?_map,Option.map_eq_some_iff] at hj
          obtain ⟨c,hc1,rfl⟩:=hj
          have hq:cur.toList[j]?=some (Value.int .u8 (c.toNat:Int)):=by
            have h3:(cur.toList.take (2 ^ h * 16))[j]?=some (Value.int .u8 (c.toNat:Int)):=by rw [hx];simp [vb,hc1]
            rw [List.getElem?_take] at h3
            split at h3
            · exact h3
            · cases h3
          refine ⟨_,(cell?_cells hb).trans (by simpa using hq),rfl,rfl⟩
        · rw [len_bytes,hlv]
          show _≤cap * 16
          omega
      · intro i B j B' L L' b hi hj hne
        exact absurd ((hmem i B hi).1.trans (hmem j B' hj).1.symm) hne
      · intro i hi
        have:i≠0:=by omega
        simp [this]
      · intro i B L b hi _ hL hb1
        obtain ⟨rfl,rfl⟩:=hmem i B hi
        simp only [if_true,Option.some.injEq] at hL
        subst hL
        cases hb1
        exact .inl hg
end Go.Proofs.YtmhkkalbijbplaaGreatDoor

/- Heads: which are valid; widths and counts. -/
namespace Go.Proofs.YtmhkkalbijbplaaGreatDoor
open Go Go.Sx
set_option maxRecDepth 100000
set_option linter.unusedVariables false
variable {tS:List (Nat × List SV)}
def hdL (M:List UInt8) (s t:Int) (R S:List UInt8):List SV:=.str M :: .int .i64 s :: .int .i64 t :: (bys R++[.str S])
def hdV (M:List UInt8) (s t:Int) (S:List UInt8):Bool:=decide (1≤M.length∧M.length≤12∧S.length≤1048576∧0≤s∧s≤4294967296∧0≤t∧t≤1099511627776)
theorem get_tl {R:List UInt8} {l:List SV} (h:R.length=16):(bys R++l)[16]?=l[0]?:=by
  rw [List.getElem?_append_right (by rw [len_bytes];omega),len_bytes,h]
set_option maxHeartbeats 4000000 in
theorem h17 (M:List UInt8) (s t:Int) (R S:List UInt8) (hR:R.length=16):Fun Tryz.prog tS 17 [.agg (hdL M s t R S)] [] 0 (.bool (hdV M s t S)) [] 0:=by
  refine funV Tryz.f17 (by kernel_rfl) (fun _=>rfl) ?_
  conv in mkSF _ _=>(reduce;simp only [u8lit,UInt8.reduceOfNat,Int.reduceOfNat,Int.reduceNegSucc])
  have g:=get_tl (l:=[.str S]) hR
  unfold hdL
  simp (config:={ maxSteps:=1000000 }) only [g,NV,↓NP,undef,reduceCtorEq,Nat.reduceEqDiff,↓reduceIte]
  simp only [hdV,decide_eq_true_eq,decide_eq_false_iff_not,eq_comm (a:=false),decide_eq_decide]
  omega
def wid (h:Int):Int:=if 0≤h∧h≤6 then 2 ^ h.toNat else 0
theorem shl_pow {h:Int} (h0:0≤h) (h6:h≤6):IntKind.i64.wrap (1 * 2 ^ (min h.toNat IntKind.i64.bits))=2 ^ h.toNat:=by
  obtain ⟨k,rfl⟩:=Int.eq_ofNat_of_zero_le h0
  have:k=0∨k=1∨k=2∨k=3∨k=4∨k=5∨k=6:=by omega
  rcases this with rfl | rfl | rfl | rfl | rfl | rfl | rfl <;> rfl
theorem h35 (h:Int):Fun Tryz.prog tS 35 [.int .i64 h] [] 0 (.int .i64 (wid h)) [] 0:=by
  refine funV Tryz.f35 (by kernel_rfl) (fun _=>rfl) ?_
  conv in mkSF _ _=>(reduce;simp only [u8lit,UInt8.reduceOfNat,Int.reduceOfNat,Int.reduceNegSucc])
  unfold wid
  by_cases h0:h < 0
  · have c:¬ (0≤h∧h≤6):=by omega
    simp (config:={ maxSteps:=1000000 }) only [h0,c,NV,↓NP,undef,reduceCtorEq,Nat.reduceEqDiff,↓reduceIte]
  by_cases h6:h > 6
  · have c:¬ (0≤h∧h≤6):=by omega
    simp (config:={ maxSteps:=1000000 }) only [h0,h6,c,NV,↓NP,reduceCtorEq,Nat.reduceEqDiff,↓reduceIte]
  have c:0≤h∧h≤6:=by omega
  have e:=shl_pow c.1 c.2
  simp (config:={ maxSteps:=1000000 }) only [h0,h6,c,e,NV,↓NP,reduceCtorEq,Nat.reduceEqDiff,↓reduceIte]
  trace_state
end Go.Proofs.YtmhkkalbijbplaaGreatDoor

/- Heads: their statements and encodings; the seeds of the trees; how many heads a signer can sign. -/
namespace Go.Proofs.YtmhkkalbijbplaaGreatDoor
open Go Go.Sx
set_option maxRecDepth 100000
set_option linter.unusedVariables false
variable {tS:List (Nat × List SV)}
theorem wid_rng (h:Int):0≤wid h∧wid h≤64:=by
  unfold wid
  by_cases c:0≤h∧h≤6
  · rw [if_pos c]
    obtain ⟨k,rfl⟩:=Int.eq_ofNat_of_zero_le c.1
    have:k=0∨k=1∨k=2∨k=3∨k=4∨k=5∨k=6:=by omega
    rcases this with rfl | rfl | rfl | rfl | rfl | rfl | rfl <;> decide
  · rw [if_neg c];decide
theorem wid_mul (h:Int):IntKind.i64.wrap (wid h * wid h)=wid h * wid h:=by
  obtain ⟨h0,h1⟩:=wid_rng h
  have h2:0≤wid h * wid h:=Int.mul_nonneg h0 h0
  have h3:wid h * wid h≤64 * 64:=Int.mul_le_mul h1 h1 h0 (by decide)
  exact wrap64_eq (by omega) (by omega)
theorem h15 (h:Int):Fun Tryz.prog tS 15 [.int .i64 h] [] 0 (.int .i64 (wid h * wid h)) [] 0:=by
  refine funV Tryz.f15 (by kernel_rfl) (fun _=>rfl) ?_
  conv in mkSF _ _=>(reduce;simp only [u8lit,UInt8.reduceOfNat,Int.reduceOfNat,Int.reduceNegSucc])
  have e:=wid_mul h
  simp (config:={ maxSteps:=1000000 }) only [NV,↓NP,reduceCtorEq,↓reduceIte]
  refine callP (h35 h) ?_
  simp (config:={ maxSteps:=1000000 }) only [NV,↓NP,reduceCtorEq,Nat.reduceEqDiff,↓reduceIte]
  refine callP (h35 h) ?_
  simp (config:={ maxSteps:=1000000 }) only [e,NV,↓NP,Nat.reduceEqDiff,↓reduceIte]
def upS (seed:List UInt8):List UInt8:=macS seed (encS [117,112,112,101,114])
def loS (seed:List UInt8) (s:Int):List UInt8:=derS seed [108,111,119,101,114] (encI s)
theorem upS_len (seed:List UInt8):(upS seed).length=32:=macS_len _ _
theorem loS_len (seed:List UInt8) (s:Int):(loS seed s).length=32:=derS_len _ _ _
theorem h83n (key label:List UInt8) (hk:key.length≤64) (h1:label.length≤2 ^ 20):Fun Tryz.prog tH2 83 [.str key,.str label,.val (.slice none 0 0)] [] 0 (.str (macS key (encS label))) [] 0:=by
  refine funV Tryz.f83 (by kernel_rfl) (fun _=>rfl) ?_
  conv in mkSF _ _=>(reduce;simp only [u8lit,UInt8.reduceOfNat,Int.reduceOfNat,Int.reduceNegSucc])
  have l1:=encS_le h1
  have fm:=h119 key (encS label) hk (by omega)
  simp (config:={ maxSteps:=1000000 }) only [NV,↓NP,reduceCtorEq,Nat.reduceEqDiff,Nat.reduceAdd,↓reduceIte]
  refine callN [] (f33 label (by omega)) ?_
  simp (config:={ maxSteps:=1000000 }) only [NV,NJ,↓NP,reduceCtorEq,Nat.reduceEqDiff,↓reduceIte]
  rw [den_loop]
  refine den_unroll (fun _ _ _ _ _ h=>h) (callT_point _ _) 1 ?_
  simp (config:={ maxSteps:=1000000 }) only [NV,↓NP,reduceCtorEq,Nat.reduceEqDiff,Int.reduceLT,↓reduceIte]
  refine callP fm ?_
  simp (config:={ maxSteps:=1000000 }) only [NV,↓NP,Nat.reduceEqDiff,↓reduceIte]
theorem h37 (seed:List UInt8) (hk:seed.length≤64):Fun Tryz.prog tH2 37 [.str seed] [] 0 (.str (upS seed)) [] 0:=by
  refine funV Tryz.f37 (by kernel_rfl) (fun _=>rfl) ?_
  conv in mkSF _ _=>(reduce;simp only [u8lit,UInt8.reduceOfNat,Int.reduceOfNat,Int.reduceNegSucc])
  unfold upS
  simp (config:={ maxSteps:=1000000 }) only [NV,↓NP,reduceCtorEq,↓reduceIte]
  refine callN [] (h83n seed [117,112,112,101,114] hk (by decide)) ?_
  simp (config:={ maxSteps:=1000000 }) only [NV,NJ,↓NP,Nat.reduceEqDiff,↓reduceIte]
theorem h44 (seed:List UInt8) (s:Int) (hk:seed.length≤64):Fun Tryz.prog tH2 44 [.str seed,.int .i64 s] [] 0 (.str (loS seed s)) [] 0:=by
  refine funV Tryz.f44 (by kernel_rfl) (fun _=>rfl) ?_
  conv in mkSF _ _=>(reduce;simp only [u8lit,UInt8.reduceOfNat,Int.reduceOfNat,Int.reduceNegSucc])
  have e1:=encI_len s
  have fd:=h83 seed [108,111,119,101,114] (encI s) hk (by decide) (by omega)
  unfold loS
  simp (config:={ maxSteps:=1000000 }) only [NV,↓NP,reduceCtorEq,Nat.reduceEqDiff,Nat.reduceAdd,↓reduceIte]
  refine callN [] (f34 s) ?_
  simp (config:={ maxSteps:=1000000 }) only [NV,NJ,↓NP,Nat.reduceEqDiff,Nat.reduceAdd,↓reduceIte]
  refine callN [(1,0)] fd ?_
  simp (config:={ maxSteps:=1000000 }) only [NV,NJ,↓NP,Nat.reduceEqDiff,Nat.reduceSub,Nat.reduceLT,↓reduceIte]
def txtS (M:List UInt8) (s t:Int) (R:List UInt8):List UInt8:=encS [104,101,97,100]++encS M++encIs [s,t]++R
def ecdS (M:List UInt8) (s t:Int) (R S:List UInt8):List UInt8:=encS M++encIs [s,t]++R++encS S
theorem take_tl {R:List UInt8} {l:List SV} (h:R.length=16):List.take 16 (bys R++l)=bys R:=List.take_left' (by rw [len_bytes,h])
theorem encIs_two (s t:Int):(encIs [s,t]).length≤27:=by
  have e1:=encI_len 2
  have e2:=encI_len s
  have e3:=encI_len t
  simp [encIs,encL];omega
theorem fInts (s t:Int):Fun Tryz.prog tS 51 [.slc 0 0 1 2 none] [(0,⟨.view,[.int .i64 s,.int .i64 t]⟩)] 1 (.slc 1 0 1 (encIs [s,t]).length none) [(1,⟨.own 5,bys (encIs [s,t])⟩)] 2:=f31 [s,t] (by show 2≤1000;decide) none
set_option maxHeartbeats 4000000 in
theorem h19 (M:List UInt8) (s t:Int) (R S:List UInt8) (hM:M.length≤2 ^ 20) (hR:R.length=16):Fun Tryz.prog tS 19 [.agg (hdL M s t R S)] [] 0 (.str (txtS M s t R)) [] 0:=by
  refine funV Tryz.f19 (by kernel_rfl) (fun _=>rfl) ?_
  conv in mkSF _ _=>(reduce;simp only [u8lit,UInt8.reduceOfNat,Int.reduceOfNat,Int.reduceNegSucc])
  have l1:=encS_le (s:=[104,101,97,100]) (by decide)
  have l2:=encS_le hM
  have l3:=encIs_two s t
  have tl:=take_tl (l:=[.str S]) hR
  unfold hdL txtS
  simp (config:={ maxSteps:=1000000 }) only [NV,↓NP,reduceCtorEq,Nat.reduceEqDiff,↓reduceIte]
  refine callN [] (f33 [104,101,97,100] (by decide)) ?_
  simp (config:={ maxSteps:=1000000 }) only [NV,NJ,↓NP,Nat.reduceEqDiff,Nat.reduceAdd,Nat.reduceLeDiff,↓reduceIte]
  refine callN [] (f33 M (by omega)) ?_
  simp (config:={ maxSteps:=1000000 }) only [NV,NJ,↓NP,Nat.reduceEqDiff,Nat.reduceAdd,Nat.reduceLeDiff,↓reduceIte]
  refine ⟨by unfold maxStr;omega,callN [(3,0)] (fInts s t) ?_⟩
  simp (config:={ maxSteps:=1000000 }) only [hR,tl,NV,NJ,↓NP,Nat.reduceEqDiff,Nat.reduceAdd,Nat.reduceSub,Nat.reduceLeDiff,Nat.reduceLT,Int.reduceToNat,Int.reduceLE,↓reduceIte]
  exact ⟨by unfold maxStr;omega,by unfold maxStr;omega⟩
set_option maxHeartbeats 4000000 in
theorem h27 (M:List UInt8) (s t:Int) (R S:List UInt8) (hM:M.length≤2 ^ 20) (hS:S.length≤2 ^ 20) (hR:R.length=16):Fun Tryz.prog tS 27 [.agg (hdL M s t R S)] [] 0 (.str (ecdS M s t R S)) [] 0:=by
  refine funV Tryz.f27 (by kernel_rfl) (fun _=>rfl) ?_
  conv in mkSF _ _=>(reduce;simp only [u8lit,UInt8.reduceOfNat,Int.reduceOfNat,Int.reduceNegSucc])
  have l2:=encS_le hM
  have l3:=encIs_two s t
  have l4:=encS_le hS
  have tl:=take_tl (l:=[.str S]) hR
  have g:=get_tl (l:=[.str S]) hR
  unfold hdL ecdS
  simp (config:={ maxSteps:=1000000 }) only [NV,↓NP,reduceCtorEq,Nat.reduceEqDiff,↓reduceIte]
  refine callN [] (f33 M (by omega)) ?_
  simp (config:={ maxSteps:=1000000 }) only [NV,NJ,↓NP,Nat.reduceEqDiff,Nat.reduceAdd,Nat.reduceLeDiff,↓reduceIte]
  refine callN [(2,0)] (fInts s t) ?_
  simp (config:={ maxSteps:=1000000 }) only [hR,tl,g,NV,NJ,↓NP,Nat.reduceEqDiff,Nat.reduceAdd,Nat.reduceSub,Nat.reduceLeDiff,Nat.reduceLT,Int.reduceToNat,Int.reduceLE,↓reduceIte]
  refine ⟨by unfold maxStr;omega,by unfold maxStr;omega,callN [] (f33 S (by omega)) ?_⟩
  simp (config:={ maxSteps:=1000000 }) only [hR,NV,NJ,↓NP,Nat.reduceEqDiff,Nat.reduceAdd,Nat.reduceLeDiff,↓reduceIte]
  unfold maxStr;omega
end Go.Proofs.YtmhkkalbijbplaaGreatDoor

/- Trees of signatures of the program: the digests' encoding, the public key, the signature. -/
namespace Go.Proofs.YtmhkkalbijbplaaGreatDoor
open Go Go.Sx
set_option maxRecDepth 100000
set_option linter.unusedVariables false
variable {tS:List (Nat × List SV)}
theorem h90_0:Fun Tryz.prog tS 90 [.val (.slice none 0 0)] [] 0 (.slc 0 0 1 (encI 0).length none) [(0,⟨.own 5,bys (encI 0)⟩)] 1:=by
  refine funM Tryz.f90 (by kernel_rfl) (by decide) ?_
  conv in mkSF _ _=>(reduce;simp only [u8lit,UInt8.reduceOfNat,Int.reduceOfNat,Int.reduceNegSucc])
  have fi:=f34 (tS:=tS) 0
  generalize encI 0=E at *
  simp (config:={ maxSteps:=1000000 }) only [NV,↓NP,reduceCtorEq,Nat.reduceEqDiff,↓reduceIte]
  refine callN [] fi ?_
  simp (config:={ maxSteps:=1000000 }) only [NV,NJ,↓NP,reduceCtorEq,Nat.reduceEqDiff,↓reduceIte]
  rw [den_loop]
  refine den_unroll (fun _ _ _ _ _ h=>h) (callT_point _ _) 1 ?_
  simp (config:={ maxSteps:=1000000 }) only [NV,↓NP,Nat.reduceEqDiff,Int.reduceLT,↓reduceIte]
  exact ⟨[(0,0)],by simp [NF,↓reduceIte]⟩
theorem h90_1 (A:List UInt8) (hA:A.length=16):Fun Tryz.prog tS 90 [.slc 0 0 16 1 none] [(0,⟨.view,bys A⟩)] 1 (.slc 1 0 1 (encI 1++A).length none) [(1,⟨.own 5,bys (encI 1++A)⟩)] 2:=by
  refine funM Tryz.f90 (by kernel_rfl) (by decide) ?_
  conv in mkSF _ _=>(reduce;simp only [u8lit,UInt8.reduceOfNat,Int.reduceOfNat,Int.reduceNegSucc])
  have fi:=f34 (tS:=tS) 1
  have ap:∀ E:List UInt8,bys E++bys A=bys (E++A):=fun E=>by simp [bys]
  have le:(encI 1++A).length=(encI 1).length+16:=by rw [List.length_append,hA]
  have lE:=encI_len 1
  rw [le]
  generalize encI 1=E at *
  have c:E.length≤1099511627760:=by omega
  simp (config:={ maxSteps:=1000000 }) only [NV,↓NP,reduceCtorEq,Nat.reduceEqDiff,↓reduceIte]
  refine callN [] fi ?_
  simp (config:={ maxSteps:=1000000 }) only [NV,NJ,↓NP,reduceCtorEq,Nat.reduceEqDiff,Nat.reduceAdd,↓reduceIte]
  rw [den_loop]
  refine den_unroll (fun _ _ _ _ _ h=>h) (callT_point _ _) 2 ?_
  simp (config:={ maxSteps:=1000000 }) only [hA,c,NV,↓NP,reduceCtorEq,Nat.reduceEqDiff,Nat.reduceAdd,Nat.reduceMul,Nat.reduceLeDiff,Nat.reduceLT,Int.reduceToNat,Int.reduceLT,Int.reduceLE,Int.reduceAdd,Int.reduceNeg,↓reduceIte,upd,Nat.reducePow]
  exact ⟨[(0,0),(3,0)],by simp [NF,Nat.reduceAdd,Nat.reduceLeDiff,↓reduceIte,ap]⟩
theorem h90_2 (A B:List UInt8) (hA:A.length=16) (hB:B.length=16):Fun Tryz.prog tS 90 [.slc 0 0 16 2 none] [(0,⟨.view,bys (A++B)⟩)] 1 (.slc 1 0 1 (encI 2++(A++B)).length none) [(1,⟨.own 5,bys (encI 2++(A++B))⟩)] 2:=by
  refine funM Tryz.f90 (by kernel_rfl) (by decide) ?_
  conv in mkSF _ _=>(reduce;simp only [u8lit,UInt8.reduceOfNat,Int.reduceOfNat,Int.reduceNegSucc])
  have fi:=f34 (tS:=tS) 2
  have ap:∀ E:List UInt8,(bys E++bys A)++bys B=bys (E++(A++B)):=fun E=>by simp [bys]
  have ap2:∀ E:List UInt8,bys E++(bys A++bys B)=bys (E++(A++B)):=fun E=>by simp [bys]
  have le:(encI 2++(A++B)).length=(encI 2).length+16+16:=by rw [List.length_append,List.length_append,hA,hB]
  have lA:(A++B).length=32:=by simp;omega
  have t0:List.take 16 (bys (A++B))=bys A:=by rw [takeB,List.take_left' hA]
  have t1:List.take 16 (List.drop 16 (bys (A++B)))=bys B:=by rw [dropB,takeB,List.drop_left' hA,List.take_of_length_le (by omega)]
  have lE:=encI_len 2
  rw [le]
  generalize encI 2=E at *
  have c:E.length≤1099511627744:=by omega
  have c':E.length≤1099511627760:=by omega
  have tk:List.take (E.length+16) (bys E++bys A)=bys E++bys A:=List.take_of_length_le (by rw [List.length_append,len_bytes,len_bytes,hA];omega)
  simp (config:={ maxSteps:=1000000 }) only [NV,↓NP,reduceCtorEq,Nat.reduceEqDiff,↓reduceIte]
  refine callN [] fi ?_
  simp (config:={ maxSteps:=1000000 }) only [NV,NJ,↓NP,reduceCtorEq,Nat.reduceEqDiff,Nat.reduceAdd,↓reduceIte]
  rw [den_loop]
  refine den_unroll (fun _ _ _ _ _ h=>h) (callT_point _ _) 3 ?_
  simp (config:={ maxSteps:=1000000 }) only [hA,hB,lA,t0,t1,c,c',tk,NV,↓NP,reduceCtorEq,Nat.reduceEqDiff,Nat.reduceAdd,Nat.reduceMul,Nat.reduceLeDiff,Nat.reduceLT,Int.reduceToNat,Int.reduceLT,Int.reduceLE,Int.reduceAdd,Int.reduceNeg,↓reduceIte,upd,Nat.reducePow]
  exact ⟨[(0,0),(5,0)],by simp [NF,Nat.reduceAdd,Nat.reduceLeDiff,↓reduceIte,ap2]⟩
theorem h36 (seed:List UInt8) (h:Nat) (hs:seed.length=32) (hh:h≤6):Fun Tryz.prog tH2 36 [.str seed,.int .i64 (h:Int)] [] 0 (.tup [.agg (bys (rootS h (lvsS seed h))),.int .i64 0]) [] 0:=by
  refine funV Tryz.f36 (by kernel_rfl) (fun _=>by simp only [SV.ren,SV.renL,ren_bytes]) ?_
  conv in mkSF _ _=>(reduce;simp only [u8lit,UInt8.reduceOfNat,Int.reduceOfNat,Int.reduceNegSucc])
  have fl:=h82 seed h hh (by omega)
  have ll:=lvsS_len seed h
  have fr:=rootP h hh _ ll
  have lr:=rootS_len h (lvsS seed h)
  generalize rootS h (lvsS seed h)=R at *
  generalize lvsS seed h=X at *
  have fh:=f57 (tS:=tH2) (h:Int)
  have c0:(decide ((0:Int)≤(h:Int)) && decide ((h:Int)≤6))=true:=by simp;omega
  rw [c0] at fh
  have c1:((seed.length:Int) != 32)=false:=by rw [hs];rfl
  generalize 2 ^ h=N at *
  have c2:N * 16≤16 * N:=by omega
  have tX:List.take (16 * N) (bys X)=bys X:=List.take_of_length_le (by rw [len_bytes];omega)
  simp (config:={ maxSteps:=1000000 }) only [c1,NV,↓NP,reduceCtorEq,Nat.reduceEqDiff,Nat.reduceAdd,↓reduceIte]
  refine callP fh ?_
  simp (config:={ maxSteps:=1000000 }) only [NV,↓NP,reduceCtorEq,Nat.reduceEqDiff,↓reduceIte]
  refine callN [] fl ?_
  simp (config:={ maxSteps:=1000000 }) only [NV,NJ,↓NP,Nat.reduceEqDiff,Nat.reduceAdd,↓reduceIte]
  refine callN [(1,0)] fr ?_
  simp (config:={ maxSteps:=1000000 }) only [ll,lr,tX,NV,NJ,↓NP,reduceCtorEq,Nat.reduceEqDiff,Nat.reduceAdd,Nat.reduceSub,Nat.reduceLT,↓reduceIte,upd]
theorem h90 (n:Nat) (Y:List UInt8) (h1:1≤n) (h2:n≤2) (hY:Y.length=16 * n):Fun Tryz.prog tS 90 [.slc 0 0 16 n none] [(0,⟨.view,bys Y⟩)] 1 (.slc 1 0 1 (encI (n:Int)++Y).length none) [(1,⟨.own 5,bys (encI (n:Int)++Y)⟩)] 2:=by
  obtain rfl | rfl:n=1∨n=2:=by omega
  · exact h90_1 Y hY
  · have:=h90_2 (tS:=tS) (Y.take 16) (Y.drop 16) (by simp;omega) (by simp;omega)
    rw [List.take_append_drop] at this
    exact this
def sigF (seed:List UInt8) (h i:Nat) (msg:List UInt8):List UInt8:=encI (i:Int)++encS (sgnS (leafS seed (i:Int)) (ofS 6 [rootS h (lvsS seed h),encI (i:Int),msg]))++(encI (h:Int)++prfS h (lvsS seed h) i)
set_option maxHeartbeats 4000000 in
theorem h42 (seed:List UInt8) (h i:Nat) (msg:List UInt8) (hs:seed.length=32) (hh:h≤2) (hi:i < 2 ^ h) (hm:msg.length≤1048576) :
    Fun Tryz.prog tH2 42 [.str seed,.int .i64 (h:Int),.int .i64 (i:Int),.str msg] [] 0 (.tup [.str (sigF seed h i msg),.int .i64 0]) [] 0:=by
  refine funV Tryz.f42 (by kernel_rfl) (fun _=>rfl) ?_
  conv in mkSF _ _=>(reduce;simp only [u8lit,UInt8.reduceOfNat,Int.reduceOfNat,Int.reduceNegSucc])
  have fl:=h82 seed h (by omega) (by omega)
  have ll:=lvsS_len seed h
  have fr:=rootP h (by omega) _ ll
  have lr:=rootS_len h (lvsS seed h)
  have fp:=h86 (lvsS seed h) h i hh ll hi
  have lp:=prfS_len h (lvsS seed h) i
  have fm:=f63 (rootS h (lvsS seed h)) msg (i:Int) lr (by omega)
  have lm:=ofS_len 6 [rootS h (lvsS seed h),encI (i:Int),msg]
  have fg:=h87 (leafS seed (i:Int)) (ofS 6 [rootS h (lvsS seed h),encI (i:Int),msg]) (by rw [leafS_len];decide) lm
  have lg:=sgnS_len (leafS seed (i:Int)) (ofS 6 [rootS h (lvsS seed h),encI (i:Int),msg])
  have fi:=f34 (tS:=tH2) (i:Int)
  have fb:=f33 (tS:=tH2) (sgnS (leafS seed (i:Int)) (ofS 6 [rootS h (lvsS seed h),encI (i:Int),msg])) (by rw [lg];decide)
  have fk:=h88 seed (i:Int) (by omega)
  have fh:=f57 (tS:=tH2) (h:Int)
  have c0:(decide ((0:Int)≤(h:Int)) && decide ((h:Int)≤6))=true:=by simp;omega
  rw [c0] at fh
  have c1:((seed.length:Int) != 32)=false:=by rw [hs];rfl
  have n4:2 ^ h≤4:=Nat.le_trans (Nat.pow_le_pow_right (by decide) hh) (by decide)
  have sh:IntKind.i64.wrap (1 * 2 ^ (min h IntKind.i64.bits))=((2 ^ h:Nat):Int):=by
    have:=shl_pow (h:=(h:Int)) (by omega) (by omega)
    rw [Int.toNat_natCast] at this
    rw [this];simp
  have lE:=encI_len (i:Int)
  have lE2:=encI_len (h:Int)
  have lB:=encS_le (s:=sgnS (leafS seed (i:Int)) (ofS 6 [rootS h (lvsS seed h),encI (i:Int),msg])) (by rw [lg];decide)
  have d0:encI ((0:Nat):Int)=encI 0:=rfl
  unfold sigF
  generalize sgnS (leafS seed (i:Int)) (ofS 6 [rootS h (lvsS seed h),encI (i:Int),msg])=G at *
  generalize ofS 6 [rootS h (lvsS seed h),encI (i:Int),msg]=D at *
  generalize rootS h (lvsS seed h)=R at *
  generalize prfS h (lvsS seed h) i=Y at *
  generalize lvsS seed h=X at *
  generalize leafS seed (i:Int)=K at *
  generalize encI (i:Int)=EI at *
  generalize encS G=EG at *
  have c2:¬ (i:Int) < 0:=by omega
  have c3:decide ((i:Int) ≥ ((2 ^ h:Nat):Int))=false:=decide_eq_false (by omega)
  have c6:(0:Int)≤(h:Int):=by omega
  have c4:¬ (1048576:Int) < (msg.length:Int):=by omega
  generalize hN:2 ^ h=N at *
  have c5:N * 16≤16 * N:=by omega
  have tX:List.take (16 * N) (bys X)=bys X:=List.take_of_length_le (by rw [len_bytes];omega)
  simp (config:={ maxSteps:=1000000 }) only [c1,NV,↓NP,reduceCtorEq,Nat.reduceEqDiff,Nat.reduceAdd,↓reduceIte]
  refine callP fh ?_
  simp (config:={ maxSteps:=1000000 }) only [sh,c2,c3,c4,c6,NV,↓NP,reduceCtorEq,Nat.reduceEqDiff,↓reduceIte]
  refine callN [] fl ?_
  simp (config:={ maxSteps:=1000000 }) only [NV,NJ,↓NP,reduceCtorEq,Nat.reduceEqDiff,↓reduceIte]
  refine callN [(0,0)] fp ?_
  rcases Nat.eq_zero_or_pos h with rfl | h0
  · obtain rfl:Y=[]:=List.length_eq_zero_iff.1 lp
    have fd:=h90_0 (tS:=tH2)
    rw [d0]
    rw [d0] at lE2
    generalize encI 0=E0 at *
    have m1:EI.length+EG.length≤maxStr:=by unfold maxStr;omega
    have m2:EI.length+EG.length+E0.length≤maxStr:=by unfold maxStr;omega
    simp (config:={ maxSteps:=1000000 }) only [ll,tX,NV,NJ,↓NP,reduceCtorEq,Nat.reduceEqDiff,Nat.reduceSub,Nat.reduceLT,↓reduceIte]
    refine callP fk ?_
    simp (config:={ maxSteps:=1000000 }) only [NV,↓NP,Nat.reduceEqDiff,↓reduceIte]
    refine callN [(0,0)] fr ?_
    simp (config:={ maxSteps:=1000000 }) only [ll,tX,NV,NJ,↓NP,Nat.reduceEqDiff,Nat.reduceSub,Nat.reduceLT,↓reduceIte]
    refine callP fm ?_
    simp (config:={ maxSteps:=1000000 }) only [NV,↓NP,Nat.reduceEqDiff,↓reduceIte]
    refine callP fg ?_
    simp (config:={ maxSteps:=1000000 }) only [NV,↓NP,Nat.reduceEqDiff,↓reduceIte]
    refine callN [] fi ?_
    simp (config:={ maxSteps:=1000000 }) only [NV,NJ,↓NP,Nat.reduceEqDiff,Nat.reduceAdd,Nat.reduceLeDiff,↓reduceIte]
    refine callN [] fb ?_
    simp (config:={ maxSteps:=1000000 }) only [m1,NV,NJ,↓NP,Nat.reduceEqDiff,Nat.reduceAdd,Nat.reduceLeDiff,↓reduceIte]
    refine callN [] fd ?_
    simp (config:={ maxSteps:=1000000 }) only [m2,NV,NJ,↓NP,Nat.reduceEqDiff,Nat.reduceAdd,Nat.reduceLeDiff,↓reduceIte]
  · obtain ⟨k,rfl⟩:∃ k,h=k+1:=⟨h - 1,by omega⟩
    have fd:=h90 (tS:=tH2) (k+1) Y (by omega) hh lp
    have lE3:(encI ((k+1:Nat):Int)++Y).length≤100:=by rw [List.length_append];omega
    generalize encI ((k+1:Nat):Int)++Y=EY at *
    have m1:EI.length+EG.length≤maxStr:=by unfold maxStr;omega
    have m2:EI.length+EG.length+EY.length≤maxStr:=by unfold maxStr;omega
    have lp':(k+1) * 16≤16 * (k+1):=by omega
    simp (config:={ maxSteps:=1000000 }) only [ll,tX,NV,NJ,↓NP,reduceCtorEq,Nat.reduceEqDiff,Nat.reduceAdd,Nat.reduceSub,Nat.reduceLT,↓reduceIte]
    refine callP fk ?_
    simp (config:={ maxSteps:=1000000 }) only [NV,↓NP,Nat.reduceEqDiff,↓reduceIte]
    refine callN [(0,0)] fr ?_
    simp (config:={ maxSteps:=1000000 }) only [ll,tX,NV,NJ,↓NP,reduceCtorEq,Nat.reduceEqDiff,Nat.reduceSub,Nat.reduceLT,↓reduceIte]
    refine callP fm ?_
    simp (config:={ maxSteps:=1000000 }) only [NV,↓NP,Nat.reduceEqDiff,↓reduceIte]
    refine callP fg ?_
    simp (config:={ maxSteps:=1000000 }) only [NV,↓NP,Nat.reduceEqDiff,↓reduceIte]
    refine callN [] fi ?_
    simp (config:={ maxSteps:=1000000 }) only [NV,NJ,↓NP,Nat.reduceEqDiff,Nat.reduceAdd,Nat.reduceLeDiff,↓reduceIte]
    refine callN [] fb ?_
    simp (config:={ maxSteps:=1000000 }) only [m1,NV,NJ,↓NP,Nat.reduceEqDiff,Nat.reduceAdd,Nat.reduceLeDiff,↓reduceIte]
    refine callN [(1,0)] fd ?_
    simp (config:={ maxSteps:=1000000 }) only [lp,m2,NV,NJ,↓NP,Nat.reduceEqDiff,Nat.reduceAdd,Nat.reduceSub,Nat.reduceLeDiff,Nat.reduceLT,↓reduceIte]
end Go.Proofs.YtmhkkalbijbplaaGreatDoor

/- Heads: the public key, the signatures of the two trees, what is signed. -/
namespace Go.Proofs.YtmhkkalbijbplaaGreatDoor
open Go Go.Sx
set_option maxRecDepth 100000
set_option linter.unusedVariables false
def pubH (seed:List UInt8) (h:Nat):List UInt8:=rootS h (lvsS (upS seed) h)
theorem wid_in {h:Nat} (hh:h≤6):wid (h:Int)=((2 ^ h:Nat):Int):=by
  unfold wid
  rw [if_pos ⟨by omega,by omega⟩,Int.toNat_natCast];simp
theorem h11 (seed:List UInt8) (h:Nat) (hs:seed.length=32) (hh:h≤6):Fun Tryz.prog tH2 11 [.str seed,.int .i64 (h:Int)] [] 0 (.tup [.agg (bys (pubH seed h)),.int .i64 0]) [] 0:=by
  refine funV Tryz.f11 (by kernel_rfl) (fun _=>by simp only [SV.ren,SV.renL,ren_bytes]) ?_
  conv in mkSF _ _=>(reduce;simp only [u8lit,UInt8.reduceOfNat,Int.reduceOfNat,Int.reduceNegSucc])
  have fw:=h35 (tS:=tH2) (h:Int)
  have fu:=h37 seed (by omega)
  have fp:=h36 (upS seed) h (upS_len seed) hh
  have lr:=rootS_len h (lvsS (upS seed) h)
  rw [wid_in hh] at fw
  unfold pubH
  have hp:=Nat.two_pow_pos h
  generalize 2 ^ h=N at *
  have c0:((N:Int) == 0)=false:=by simp;omega
  generalize rootS h (lvsS (upS seed) h)=R at *
  generalize upS seed=U at *
  have c1:((seed.length:Int) != 32)=false:=by rw [hs];rfl
  simp (config:={ maxSteps:=1000000 }) only [c1,NV,↓NP,reduceCtorEq,Nat.reduceEqDiff,Nat.reduceAdd,↓reduceIte]
  refine callP fw ?_
  simp (config:={ maxSteps:=1000000 }) only [c0,NV,↓NP,reduceCtorEq,Nat.reduceEqDiff,↓reduceIte]
  refine callP fu ?_
  simp (config:={ maxSteps:=1000000 }) only [NV,↓NP,Nat.reduceEqDiff,↓reduceIte]
  refine callP fp ?_
  simp (config:={ maxSteps:=1000000 }) only [lr,NV,↓NP,Nat.reduceEqDiff,Nat.reduceAdd,↓reduceIte,upd]
theorem sigF_len (seed:List UInt8) (h i:Nat) (msg:List UInt8) (hh:h≤2):(sigF seed h i msg).length≤2000:=by
  unfold sigF
  have e1:=encI_len (i:Int)
  have e2:=encI_len (h:Int)
  have e3:=encI_len (560:Int)
  have e4:=prfS_len h (lvsS seed h) i
  have e5:=sgnS_len (leafS seed (i:Int)) (ofS 6 [rootS h (lvsS seed h),encI (i:Int),msg])
  simp only [List.length_append,encS,e4,e5]
  generalize (encI (i:Int)).length=a at *
  generalize (encI (h:Int)).length=b at *
  have:(encI ((560:Nat):Int)).length≤9:=encI_len _
  omega
theorem h41 (seed:List UInt8) (h i:Nat) (msg:List UInt8) (hs:seed.length=32) (hh:h≤2) (hi:i < 2 ^ h) (hm:msg.length≤1048576) :
    Fun Tryz.prog tH2 41 [.str seed,.int .i64 (i:Int),.str msg,.ptr 0 0,.ptr 1 0] [(0,⟨.view,[.int .i64 (h:Int)]⟩),(1,⟨.own 29,[.int .i64 0]⟩)] 2 (.str (encS (sigF seed h i msg))) [(1,⟨.own 29,[.int .i64 0]⟩)] 2:=by
  refine funM Tryz.f41 (by kernel_rfl) (by decide) ?_
  conv in mkSF _ _=>(reduce;simp only [u8lit,UInt8.reduceOfNat,Int.reduceOfNat,Int.reduceNegSucc])
  have fs:=h42 seed h i msg hs hh hi hm
  have ls:=sigF_len seed h i msg hh
  generalize sigF seed h i msg=S at *
  have fb:=f33 (tS:=tH2) S (by omega)
  simp (config:={ maxSteps:=1000000 }) only [NV,↓NP,reduceCtorEq,Nat.reduceEqDiff,Nat.reduceAdd,↓reduceIte]
  refine callP fs ?_
  simp (config:={ maxSteps:=1000000 }) only [NV,↓NP,Int.reduceGT,reduceCtorEq,Nat.reduceEqDiff,↓reduceIte,upd]
  refine callN [] fb ?_
  simp (config:={ maxSteps:=1000000 }) only [NV,NJ,↓NP,Nat.reduceEqDiff,Nat.reduceAdd,↓reduceIte]
  exact ⟨[(0,0),(1,0)],by simp [NF,Nat.reduceAdd,Nat.reduceLeDiff,↓reduceIte]⟩
end Go.Proofs.YtmhkkalbijbplaaGreatDoor

/- Heads: Make. -/
namespace Go.Proofs.YtmhkkalbijbplaaGreatDoor
open Go Go.Sx
set_option maxRecDepth 100000
set_option linter.unusedVariables false
def mkS (seed:List UInt8) (h i:Nat) (M:List UInt8) (s t:Int) (R:List UInt8):List UInt8:=
  encI (i:Int)++rootS h (lvsS (loS seed ((i / 2 ^ h:Nat):Int)) h)++encS (sigF (upS seed) h (i / 2 ^ h) (rootS h (lvsS (loS seed ((i / 2 ^ h:Nat):Int)) h)))++encS (sigF (loS seed ((i / 2 ^ h:Nat):Int)) h (i % 2 ^ h) (txtS M s t R))
def hd0:List SV:=hdL [] 0 0 zero16 []
theorem splice_tl {R:List UInt8} {l d:List SV} (h:R.length=16):splice (bys R++l) 16 d=bys R++splice l 0 d:=by
  unfold splice
  rw [List.take_left' (by rw [len_bytes,h]),List.drop_append,len_bytes,h]
  simp [List.drop_of_length_le,len_bytes,h]
theorem take_tl1 {R:List UInt8} {x:SV} (h:R.length=16):List.take 17 (bys R++[x])=bys R++[x]:=List.take_of_length_le (by simp [len_bytes,h])
theorem flat_tl (R x:List UInt8):SV.flatL (bys R++[.str x])=true:=by
  have:∀ l:List SV,SV.flatL (l++[.str x])=SV.flatL l:=fun l=>by induction l with
    | nil=>rfl
    | cons a l ih=>simp [SV.flatL,ih]
  rw [this,flat_bytes]
theorem wrapN {n:Nat} (h:n≤1099511627776):IntKind.i64.wrap ((n:Nat):Int)=(n:Int):=wrap64_eq (by omega) (by omega)
theorem ren_tl (η:Nat→Nat × Nat) (R x:List UInt8):SV.renL η (bys R++[.str x])=bys R++[.str x]:=SV.flatL_ren η _ (flat_tl R x)
theorem txtS_len {M R:List UInt8} (s t:Int) (hM:M.length≤12) (hR:R.length=16):(txtS M s t R).length≤100:=by
  have e0:=encI_len ((([104,101,97,100]:List UInt8).length:Nat):Int)
  have e1:=encI_len (M.length:Int)
  have e2:=encIs_two s t
  simp only [txtS,encS,List.length_append,List.length_cons,List.length_nil] at *
  omega
theorem h13b (seed:List UInt8) (h:Nat) (i:Int) (M:List UInt8) (s t:Int) (R S:List UInt8) (hR:R.length=16) (hs:seed.length=32) (hh:h≤6) (hi:i < 0∨wid (h:Int) * wid (h:Int)≤i) :
    Fun Tryz.prog tH2 13 [.str seed,.int .i64 (h:Int),.int .i64 i,.agg (hdL M s t R S)] [] 0 (.tup [.agg hd0,.int .i64 22]) [] 0:=by
  refine funVk 10 Tryz.f13 (by kernel_rfl) (fun _=>rfl) ?_
  conv in SF.keep _ _=>(reduce;simp only [u8lit,UInt8.reduceOfNat,Int.reduceOfNat,Int.reduceNegSucc])
  have fw:=h35 (tS:=tH2) (h:Int)
  have fc:=h15 (tS:=tH2) (h:Int)
  have sp:=fun d=>splice_tl (l:=[.str S]) (d:=d) hR
  unfold hdL
  have c1:((seed.length:Int) != 32)=false:=by rw [hs];rfl
  have c0:(wid (h:Int) == 0)=false:=by
    have hp:=Nat.two_pow_pos h
    rw [wid_in hh]
    generalize 2 ^ h=N at *
    simp;omega
  generalize wid (h:Int) * wid (h:Int)=W at *
  generalize wid (h:Int)=V at *
  by_cases h1:i < 0
  · simp (config:={ maxSteps:=1000000 }) only [c1,sp,hR,NV,↓NP,reduceCtorEq,Nat.reduceEqDiff,Nat.reduceAdd,↓reduceIte,upd]
    refine callP fw ?_
    simp (config:={ maxSteps:=1000000 }) only [c0,h1,NV,↓NP,undef,reduceCtorEq,Nat.reduceEqDiff,Nat.reduceAdd,↓reduceIte,upd]
    rfl
  · have c2:i ≥ W:=by omega
    simp (config:={ maxSteps:=1000000 }) only [c1,sp,hR,NV,↓NP,reduceCtorEq,Nat.reduceEqDiff,Nat.reduceAdd,↓reduceIte,upd]
    refine callP fw ?_
    simp (config:={ maxSteps:=1000000 }) only [c0,h1,NV,↓NP,reduceCtorEq,Nat.reduceEqDiff,↓reduceIte]
    refine callP fc ?_
    simp (config:={ maxSteps:=1000000 }) only [c2,NV,↓NP,reduceCtorEq,Nat.reduceEqDiff,Nat.reduceAdd,↓reduceIte,upd]
    rfl
set_option maxHeartbeats 4000000 in
theorem h13 (seed:List UInt8) (h i:Nat) (M:List UInt8) (s t:Int) (R S:List UInt8) (hR:R.length=16) (hs:seed.length=32) (hh:h≤2) (hi:i < 2 ^ h * 2 ^ h) (hv:hdV M s t []=true) :
    Fun Tryz.prog tH2 13 [.str seed,.int .i64 (h:Int),.int .i64 (i:Int),.agg (hdL M s t R S)] [] 0 (.tup [.agg (hdL M s t R (mkS seed h i M s t R)),.int .i64 0]) [] 0:=by
  refine funVk 10 Tryz.f13 (by kernel_rfl) (fun _=>by simp only [SV.ren,SV.renL,hdL,ren_tl]) ?_
  conv in SF.keep _ _=>(reduce;simp only [u8lit,UInt8.reduceOfNat,Int.reduceOfNat,Int.reduceNegSucc])
  have hp:=Nat.two_pow_pos h
  have n4:2 ^ h≤4:=Nat.le_trans (Nat.pow_le_pow_right (by decide) hh) (by decide)
  have fw:=h35 (tS:=tH2) (h:Int)
  have fc:=h15 (tS:=tH2) (h:Int)
  have fv:=h17 (tS:=tH2) M s t R [] hR
  rw [hv] at fv
  rw [wid_in (by omega)] at fw fc
  have ft:=h44 seed ((i / 2 ^ h:Nat):Int) (by omega)
  have fu:=h37 seed (by omega)
  have lT:=loS_len seed ((i / 2 ^ h:Nat):Int)
  have lU:=upS_len seed
  have hM:M.length≤12:=by have:=of_decide_eq_true hv;omega
  have fx:=h19 (tS:=tH2) M s t R [] (by omega) hR
  have lx:(txtS M s t R).length≤100:=txtS_len s t hM hR
  unfold mkS
  generalize loS seed ((i / 2 ^ h:Nat):Int)=T at *
  generalize upS seed=U at *
  generalize txtS M s t R=X at *
  have fk:=h36 T h lT (by omega)
  have lk:=rootS_len h (lvsS T h)
  generalize rootS h (lvsS T h)=K at *
  have f1:=h41 U h (i / 2 ^ h) K lU hh (Nat.div_lt_of_lt_mul hi) (by omega)
  have f2:=h41 T h (i % 2 ^ h) X lT hh (Nat.mod_lt _ hp) (by omega)
  have fi:=f34 (tS:=tH2) (i:Int)
  have h16:2 ^ h * 2 ^ h≤4 * 4:=Nat.mul_le_mul n4 n4
  have hd:=Nat.div_le_self i (2 ^ h)
  have hd':=Nat.mod_le i (2 ^ h)
  have q1:IntKind.i64.wrap ((i:Int).tdiv ((2 ^ h:Nat):Int))=((i / 2 ^ h:Nat):Int):=by
    rw [show (i:Int).tdiv ((2 ^ h:Nat):Int)=((i / 2 ^ h:Nat):Int) from rfl,wrapN (by omega)]
  have q2:(i:Int).tmod ((2 ^ h:Nat):Int)=((i % 2 ^ h:Nat):Int):=rfl
  have sp:=fun x d=>splice_tl (l:=[.str x]) (d:=d) hR
  have tk:=fun x=>take_tl1 (x:=x) hR
  have fl:=flat_tl R
  have s1:=sigF_len U h (i / 2 ^ h) K hh
  have s2:=sigF_len T h (i % 2 ^ h) X hh
  have b1:=encS_le (s:=sigF U h (i / 2 ^ h) K) (by omega)
  have b2:=encS_le (s:=sigF T h (i % 2 ^ h) X) (by omega)
  generalize encS (sigF U h (i / 2 ^ h) K)=S1 at *
  generalize encS (sigF T h (i % 2 ^ h) X)=S2 at *
  have lE:=encI_len (i:Int)
  generalize encI (i:Int)=EI at *
  unfold hdL at *
  have c1:((seed.length:Int) != 32)=false:=by rw [hs];rfl
  have c2:decide ((i:Int) ≥ ((2 ^ h:Nat):Int) * ((2 ^ h:Nat):Int))=false:=decide_eq_false (by rw [← Int.natCast_mul];omega)
  have c3:¬ (i:Int) < 0:=by omega
  generalize 2 ^ h=N at *
  have c0:((N:Int) == 0)=false:=by simp;omega
  simp (config:={ maxSteps:=1000000 }) only [c1,sp,hR,NV,↓NP,reduceCtorEq,Nat.reduceEqDiff,Nat.reduceAdd,↓reduceIte,upd]
  refine callP fw ?_
  simp (config:={ maxSteps:=1000000 }) only [c0,c3,NV,↓NP,reduceCtorEq,Nat.reduceEqDiff,↓reduceIte]
  refine callP fc ?_
  simp (config:={ maxSteps:=1000000 }) only [c2,tk,hR,fl,NV,↓NP,reduceCtorEq,Nat.reduceEqDiff,Nat.reduceAdd,↓reduceIte]
  refine callP fv ?_
  simp (config:={ maxSteps:=1000000 }) only [fl,NV,↓NP,reduceCtorEq,Nat.reduceEqDiff,Nat.reduceAdd,↓reduceIte,upd]
  refine callP fw ?_
  have c4:¬ (N:Int)=0:=by omega
  simp (config:={ maxSteps:=1000000 }) only [c4,q1,NV,NJ,↓NP,reduceCtorEq,Nat.reduceEqDiff,↓reduceIte]
  refine callP ft ?_
  simp (config:={ maxSteps:=1000000 }) only [NV,↓NP,reduceCtorEq,Nat.reduceEqDiff,↓reduceIte]
  refine callP fk ?_
  simp (config:={ maxSteps:=1000000 }) only [lk,NV,↓NP,reduceCtorEq,Nat.reduceEqDiff,Nat.reduceAdd,Int.reduceToNat,Int.reduceLE,↓reduceIte,upd]
  refine callN [] fi ?_
  have m1:EI.length+16≤maxStr:=by unfold maxStr;omega
  have m2:EI.length+16+S1.length≤maxStr:=by unfold maxStr;omega
  have m3:EI.length+16+S1.length+S2.length≤maxStr:=by unfold maxStr;omega
  simp (config:={ maxSteps:=1000000 }) only [lk,m1,NV,NJ,↓NP,reduceCtorEq,Nat.reduceEqDiff,Nat.reduceAdd,Nat.reduceLeDiff,↓reduceIte]
  refine callP fu ?_
  simp (config:={ maxSteps:=1000000 }) only [c4,q1,NV,NJ,↓NP,reduceCtorEq,Nat.reduceEqDiff,↓reduceIte]
  refine callN [(0,0),(3,0)] f1 ?_
  simp (config:={ maxSteps:=1000000 }) only [c4,q2,lk,m2,tk,hR,fl,NV,NJ,↓NP,reduceCtorEq,Nat.reduceEqDiff,Nat.reduceAdd,Nat.reduceSub,Nat.reduceLT,↓reduceIte]
  refine callP fx ?_
  simp (config:={ maxSteps:=1000000 }) only [fl,NV,↓NP,reduceCtorEq,Nat.reduceEqDiff,↓reduceIte]
  refine callN [(0,0),(3,0)] f2 ?_
  simp (config:={ maxSteps:=1000000 }) only [sp,tk,hR,NV,NJ,↓NP,Int.reduceGT,Int.reduceBNe,reduceCtorEq,Nat.reduceEqDiff,Nat.reduceAdd,Nat.reduceSub,Nat.reduceLT,↓reduceIte,upd]
  rw [lk];exact m3
end Go.Proofs.YtmhkkalbijbplaaGreatDoor
