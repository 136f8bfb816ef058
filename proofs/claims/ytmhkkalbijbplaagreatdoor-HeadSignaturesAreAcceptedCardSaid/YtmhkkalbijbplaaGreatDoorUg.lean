/- The proof, part Ug: the texts DgA, DgB, BldA, DgC, DgD, DgE, ApB, KdA, KdB, ApC, KdC, KdD, MrA, MrB, MrC, MrD, MrE, MrF, MrG. -/
import Derived.Test.YtmhkkalbijbplaaGreatDoorUf
set_option linter.unusedSimpArgs false
set_option linter.unusedVariables false
/- One-time signatures: the digits of a digest. -/
namespace Go.Proofs.YtmhkkalbijbplaaGreatDoor
open Go Go.Sx
set_option maxRecDepth 100000
set_option linter.unusedVariables false
variable {tS:List (Nat × List SV)}
def dgN (d:List UInt8) (i:Nat):Nat:=(d.getD (i / 2) 0).toNat / (if i % 2=0 then 16 else 1) % 16
def dgL (d:List UInt8) (i:Nat):List Int:=(List.range i).map fun j=>(dgN d j:Int)
def sumN (d:List UInt8):Nat→Nat
  | 0=>0
  | i+1=>sumN d i+(15 - dgN d i)
theorem dgN_lt (d:List UInt8) (i:Nat):dgN d i≤15:=by unfold dgN;omega
theorem sumN_le (d:List UInt8):∀ i,sumN d i≤15 * i
  | 0=>Nat.le_refl _
  | i+1=>by have:=sumN_le d i;simp only [sumN];omega
theorem dgL_len (d:List UInt8) (i:Nat):(dgL d i).length=i:=by simp [dgL]
theorem dgL_step (d:List UInt8) (i:Nat):dgL d i++[(dgN d i:Int)]=dgL d (i+1):=by
  unfold dgL
  rw [List.range_succ,List.map_append];rfl
def digS (d:List UInt8):List Int:=dgL d 32++[((sumN d 32 / 256 % 16:Nat):Int),((sumN d 32 / 16 % 16:Nat):Int),((sumN d 32 % 16:Nat):Int)]
theorem digS_len (d:List UInt8):(digS d).length=35:=by simp [digS,dgL_len]
theorem digS_rng (d:List UInt8) (k:Nat) (hk:k < 35):∃ t:Nat,t≤15∧(digS d)[k]?=some (t:Int):=by
  unfold digS
  by_cases h:k < 32
  · refine ⟨dgN d k,dgN_lt d k,?_⟩
    rw [List.getElem?_append_left (by rw [dgL_len];exact h)]
    simp [dgL,h]
  · rw [List.getElem?_append_right (by rw [dgL_len];omega),dgL_len]
    have:k=32∨k=33∨k=34:=by omega
    rcases this with rfl | rfl | rfl
    · exact ⟨sumN d 32 / 256 % 16,by omega,rfl⟩
    · exact ⟨sumN d 32 / 16 % 16,by omega,rfl⟩
    · exact ⟨sumN d 32 % 16,by omega,rfl⟩
def dC (d:List UInt8) (i:Nat):List SV:=ints (dgL d i)++List.replicate (35 - i) (.int .i64 0)
theorem dC_len {d:List UInt8} {i:Nat} (h:i≤35):(dC d i).length=35:=by simp [dC,len_ints,dgL_len];omega
theorem dC_put {d:List UInt8} {i:Nat} (h:i < 32):splice (dC d i) i [.int .i64 (dgN d i:Int)]=dC d (i+1):=by
  unfold dC
  rw [show (35 - i)=(35 - (i+1))+1 by omega,List.replicate_succ]
  have:=splice_app (a:=ints (dgL d i)) (b:=[.int .i64 0]) (c:=List.replicate (35 - (i+1)) (.int .i64 0)) (k:=i) (d:=[.int .i64 (dgN d i:Int)]) (by simp [len_ints,dgL_len]) rfl
  simp only [List.cons_append,List.nil_append] at this
  rw [this,← dgL_step]
  simp [ints]
theorem dC_get {d:List UInt8} {i:Nat} (h:i < 32):(dC d (i+1))[i]?=some (.int .i64 (dgN d i:Int)):=by
  unfold dC
  rw [List.getElem?_append_left (by simp [len_ints,dgL_len])]
  simp [ints,dgL]
theorem dC_flat {d:List UInt8} {i:Nat}:SV.flatL (dC d i)=true:=by
  unfold dC
  refine flatL_app (flat_ints _) ?_
  generalize 35 - i=k
  induction k with
  | zero=>rfl
  | succ k ih=>rw [List.replicate_succ];simp only [SV.flatL,SV.flat,Bool.true_and];exact ih
theorem dC_ren (η:Nat→Nat × Nat) (d:List UInt8) (i:Nat):SV.renL η (dC d i)=dC d i:=SV.flatL_ren η _ dC_flat
theorem dg_ev {x:UInt8} {r:Nat} (hr:r < 2):Int.tmod (IntKind.i64.wrap ((x.toNat:Int).fdiv (2 ^ (min (4 - 4 * r) IntKind.u8.bits)))) 16=((x.toNat / (if r=0 then 16 else 1) % 16:Nat):Int):=by
  have hx:x.toNat < 256:=x.toNat_lt
  have:r=0∨r=1:=by omega
  rcases this with rfl | rfl
  · have e:((x.toNat:Int).fdiv (2 ^ (min (4 - 4 * 0) IntKind.u8.bits)))=((x.toNat / 16:Nat):Int):=(Int.ofNat_fdiv _ 16).symm
    rw [e,wrap64_eq (by omega) (by omega)]
    exact (Int.ofNat_tmod _ 16).symm
  · have e:((x.toNat:Int).fdiv (2 ^ (min (4 - 4 * 1) IntKind.u8.bits)))=((x.toNat / 1:Nat):Int):=(Int.ofNat_fdiv _ 1).symm
    rw [e,wrap64_eq (by omega) (by omega)]
    exact (Int.ofNat_tmod _ 16).symm
def dF (d:List UInt8) (x y z:Int):List SV:=ints (dgL d 32)++[.int .i64 x,.int .i64 y,.int .i64 z]
theorem dF_0 (d:List UInt8):dC d 32=dF d 0 0 0:=rfl
theorem dF_len (d:List UInt8) (x y z:Int):(dF d x y z).length=35:=by simp [dF,len_ints,dgL_len]
theorem dF_34 (d:List UInt8) (x y z v:Int):splice (dF d x y z) 34 [.int .i64 v]=dF d x y v:=by
  have:=splice_app (a:=ints (dgL d 32)++[.int .i64 x,.int .i64 y]) (b:=[.int .i64 z]) (c:=[]) (k:=34) (d:=[.int .i64 v]) (by simp [len_ints,dgL_len]) rfl
  simpa [dF] using this
theorem dF_33 (d:List UInt8) (x y z v:Int):splice (dF d x y z) 33 [.int .i64 v]=dF d x v z:=by
  have:=splice_app (a:=ints (dgL d 32)++[.int .i64 x]) (b:=[.int .i64 y]) (c:=[.int .i64 z]) (k:=33) (d:=[.int .i64 v]) (by simp [len_ints,dgL_len]) rfl
  simpa [dF] using this
theorem dF_32 (d:List UInt8) (x y z v:Int):splice (dF d x y z) 32 [.int .i64 v]=dF d v y z:=by
  have:=splice_app (a:=ints (dgL d 32)) (b:=[.int .i64 x]) (c:=[.int .i64 y,.int .i64 z]) (k:=32) (d:=[.int .i64 v]) (by simp [len_ints,dgL_len]) rfl
  simpa [dF] using this
theorem dF_all (d:List UInt8):dF d ((sumN d 32 / 256 % 16:Nat):Int) ((sumN d 32 / 16 % 16:Nat):Int) ((sumN d 32 % 16:Nat):Int)=ints (digS d):=by
  simp [dF,digS,ints]
theorem tmod_n (n k:Nat):Int.tmod (n:Int) (k:Int)=((n % k:Nat):Int):=(Int.ofNat_tmod n k).symm
theorem tdiv_n (n k:Nat):Int.tdiv (n:Int) (k:Int)=((n / k:Nat):Int):=(Int.ofNat_tdiv n k).symm
set_option maxHeartbeats 4000000 in
theorem f77 (d:List UInt8) (hd:d.length=16):Fun Tryz.prog tS 126 [.agg (bys d)] [] 0 (.slc 0 0 1 35 (some 35)) [(0,⟨.own 157,ints (digS d)⟩)] 1:=by
  refine fun_anyG none cF cF_ok ck126 (Nat.le_of_ble_eq_true rfl) (by decide) ?_
  conv in mkSF _ _=>(reduce;simp only [u8lit,UInt8.reduceOfNat,Int.reduceOfNat,Int.reduceNegSucc])
  rw [exG_mk]
  have hl:(bys d).length=16:=by rw [len_bytes,hd]
  simp (config:={ maxSteps:=1000000 }) only [reduceCtorEq,Nat.reduceEqDiff,Nat.reduceAdd,eq_self,frOf,↓reduceIte,Opd.ev,Sx.get,put,putO,del,dels,SV.cells?,BB,↓PB]
  rw [den_loop]
  have rD:∀ η,SV.renL η (bys d)=bys d:=fun η=>ren_bytes η d
  have rC:∀ η i,SV.renL η (dC d i)=dC d i:=fun η i=>dC_ren η d i
  refine den_inv cF_ok (σ:=Nat) (fun i=>[(7,.int .i64 (i:Int)),(4,.int .i64 (sumN d i:Int)),(3,.ptr 1 0),(1,.ptr 0 0)]) (fun i=>[(1,⟨.own 157,dC d i⟩),(0,⟨.own 24,bys d⟩)]) (fun _=>2)
    (fun i=>i≤32) (fun i=>32 - i) 0 ?_ (Nat.zero_le _) ?_
  · exact ⟨[(0,0),(1,0)],by simp only [rD,rC,EntM,compat,apartM,keysBelow,eta,idHs,rd,Nat.reduceAdd,Nat.reduceSub,Nat.reduceLT,Nat.reduceLeDiff,↓reduceIte,Kind.isOwn,exists_eq_left',ne_eq,implies_true,false_imp_iff,forall_const,forall_eq,BB] <;> rfl,by simp [sumN,frEnt,geto,eta,SV.ren,Nat.reduceAdd,Nat.reduceEqDiff,Nat.reduceLeDiff,↓reduceIte,BB]⟩
  · intro i hi
    have hs:=sumN_le d i
    have hdg:=dgN_lt d i
    have lC:=dC_len (d:=d) (show i≤35 by omega)
    have lC':=dC_len (d:=d) (show i+1≤35 by omega)
    by_cases h32:i < 32
    · obtain ⟨x,hx⟩:∃ x,d[i / 2]?=some x:=⟨d[i / 2]'(by omega),by rw [List.getElem?_eq_getElem]⟩
      have gx:=get_bysI hx
      have c1:(i:Int) < 32:=by omega
      have c2:(0:Int)≤(i:Int):=by omega
      have c3:(i:Int) < 35:=by omega
      have q1:Int.tdiv (i:Int) 2=((i / 2:Nat):Int):=tdiv_n i 2
      have q2:Int.tmod (i:Int) 2=((i % 2:Nat):Int):=tmod_n i 2
      have q3:IntKind.i64.wrap ((i / 2:Nat):Int)=((i / 2:Nat):Int):=wrap64_eq (by omega) (by omega)
      have q4:(0:Int)≤((i / 2:Nat):Int)∧((i / 2:Nat):Int) < 16:=by omega
      have v1:IntKind.i64.wrap (4 * ((i % 2:Nat):Int))=((4 * (i % 2):Nat):Int):=by rw [wrap64_eq (by omega) (by omega)];omega
      have v2:IntKind.i64.wrap (4 - ((4 * (i % 2):Nat):Int))=((4 - 4 * (i % 2):Nat):Int):=by rw [wrap64_eq (by omega) (by omega)];omega
      have v3:(0:Int)≤((4 - 4 * (i % 2):Nat):Int):=by omega
      have v4:IntKind.i64.wrap ((i:Int)+1)=((i+1:Nat):Int):=by rw [wrap64_eq (by omega) (by omega)];omega
      have ev:Int.tmod (IntKind.i64.wrap ((x.toNat:Int).fdiv (2 ^ (min (4 - 4 * (i % 2)) IntKind.u8.bits)))) 16=(dgN d i:Int):=by
        rw [dg_ev (by omega)]
        unfold dgN
        rw [List.getD_eq_getElem?_getD,hx];rfl
      have v5:IntKind.i64.wrap (15 - (dgN d i:Int))=((15 - dgN d i:Nat):Int):=by rw [wrap64_eq (by omega) (by omega)];omega
      have v6:IntKind.i64.wrap ((sumN d i:Int)+((15 - dgN d i:Nat):Int))=(sumN d (i+1):Int):=by rw [wrap64_eq (by omega) (by omega)];simp only [sumN];omega
      have op:=dC_put (d:=d) h32
      have og:=dC_get (d:=d) h32
      simp (config:={ maxSteps:=1000000 }) only [c1,c2,c3,q1,q2,q3,q4.1,q4.2,gx,v1,v2,v3,v4,ev,v5,v6,lC,op,og,reduceCtorEq,Nat.reduceEqDiff,Nat.reduceLeDiff,Int.reduceNe,eq_self,↓reduceIte,↓binI,Opd.ev,Sx.get,put,putO,del,dels,rd,upd,SV.cells?,SV.one,BB,↓PB]
      exact ⟨by omega,i+1,⟨[(0,0),(1,0)],by simp only [rD,rC,EntM,compat,apartM,keysBelow,eta,idHs,rd,Nat.reduceAdd,Nat.reduceSub,Nat.reduceLT,Nat.reduceLeDiff,↓reduceIte,Kind.isOwn,exists_eq_left',ne_eq,implies_true,false_imp_iff,forall_const,forall_eq,BB],by simp [frEnt,geto,eta,SV.ren,Nat.reduceAdd,Nat.reduceEqDiff,Nat.reduceLeDiff,↓reduceIte,BB]⟩,by omega,by omega⟩
    · obtain rfl:i=32:=by omega
      rw [dF_0]
      simp (config:={ maxSteps:=1000000 }) only [Nat.reduceEqDiff,Int.reduceLT,eq_self,↓reduceIte,↓binI,Opd.ev,Sx.get,put,putO,del,dels,BB,↓PB]
      rw [den_loop]
      refine den_unroll cF_ok (callT_point _ _) 4 ?_
      have w1:Int.tmod (sumN d 32:Int) 16=((sumN d 32 % 16:Nat):Int):=tmod_n (sumN d 32) 16
      have w2:Int.tdiv (sumN d 32:Int) 16=((sumN d 32 / 16:Nat):Int):=tdiv_n (sumN d 32) 16
      have w3:Int.tmod ((sumN d 32 / 16:Nat):Int) 16=((sumN d 32 / 16 % 16:Nat):Int):=tmod_n (sumN d 32 / 16) 16
      have w4:Int.tdiv ((sumN d 32 / 16:Nat):Int) 16=((sumN d 32 / 16 / 16:Nat):Int):=tdiv_n (sumN d 32 / 16) 16
      have w5:Int.tmod ((sumN d 32 / 16 / 16:Nat):Int) 16=((sumN d 32 / 16 / 16 % 16:Nat):Int):=tmod_n (sumN d 32 / 16 / 16) 16
      have w6:IntKind.i64.wrap ((sumN d 32 / 16:Nat):Int)=((sumN d 32 / 16:Nat):Int):=wrap64_eq (by omega) (by omega)
      have w7:IntKind.i64.wrap ((sumN d 32 / 16 / 16:Nat):Int)=((sumN d 32 / 16 / 16:Nat):Int):=wrap64_eq (by omega) (by omega)
      simp (config:={ maxSteps:=1000000 }) only [dF_len,dF_34,dF_33,dF_32,w1,w2,w3,w4,w5,w6,w7,Int.reduceGE,reduceCtorEq,Nat.reduceEqDiff,Nat.reduceAdd,Nat.reduceLeDiff,Int.reduceToNat,Int.reduceLT,Int.reduceLE,Int.reduceSub,Int.reduceNeg,Int.reduceNe,eq_self,↓reduceIte,↓binI,↓evRes,Opd.ev,Sx.get,put,putO,del,dels,rd,upd,SV.cells?,SV.one,retOf,eta,SV.ren,BB,↓PB]
      rw [show sumN d 32 / 16 / 16=sumN d 32 / 256 by omega,dF_all]
      exact ⟨[(1,0)],by simp [EntM,compat,apartM,keysBelow,eta,idHs,rd,↓reduceIte,Kind.isOwn,exists_eq_left',ne_eq,implies_true,forall_const,BB],by simp [BB]⟩
set_option maxHeartbeats 4000000 in
theorem f100 (d:List UInt8) (hd:d.length=16):Fun Tryz.prog tS 132 [.agg (bys d)] [] 0 (.slc 0 0 1 35 none) [(0,⟨.own 3,ints (digS d)⟩)] 1:=by
  refine fun_anyG none cF cF_ok ck132 (Nat.le_of_ble_eq_true rfl) (by decide) ?_
  conv in mkSF _ _=>(reduce;simp only [u8lit,UInt8.reduceOfNat,Int.reduceOfNat,Int.reduceNegSucc])
  rw [exG_mk]
  have hl:(bys d).length=16:=by rw [len_bytes,hd]
  simp (config:={ maxSteps:=1000000 }) only [reduceCtorEq,Nat.reduceEqDiff,eq_self,frOf,↓reduceIte,Opd.ev,Sx.get,put,putO,del,dels,SV.cells?,BB,↓PB]
  rw [den_loop]
  have rD:∀ η,SV.renL η (bys d)=bys d:=fun η=>ren_bytes η d
  refine den_inv cF_ok (σ:=Nat) (fun i=>[(5,.int .i64 (i:Int)),(4,.int .i64 (sumN d (2 * i):Int)),(3,nlS 1 1 (2 * i)),(1,.ptr 0 0)]) (fun i=>nlM 1 3 (ints (dgL d (2 * i))) [(0,⟨.own 24,bys d⟩)] (2 * i)) (fun i=>nlN 1 (2 * i))
    (fun i=>i≤16) (fun i=>16 - i) 0 ?_ (Nat.zero_le _) ?_
  · exact ⟨[(0,0)],by simp only [Nat.mul_zero,rD,EntM,compat,apartM,keysBelow,eta,idHs,rd,Nat.reduceSub,Nat.reduceLT,Nat.reduceLeDiff,↓reduceIte,Kind.isOwn,exists_eq_left',ne_eq,implies_true,false_imp_iff,forall_const,BB] <;> exact ⟨rfl,rfl⟩,by simp [sumN,frEnt,geto,eta,SV.ren,Nat.reduceEqDiff,↓reduceIte,BB]⟩
  · intro i hi
    have hs:=sumN_le d (2 * i)
    have hdg:=dgN_lt d (2 * i)
    have hdg1:=dgN_lt d (2 * i+1)
    by_cases h16:i < 16
    · obtain ⟨x,hx⟩:∃ x,d[i]?=some x:=⟨d[i]'(by omega),by rw [List.getElem?_eq_getElem]⟩
      have gx:=get_bysI hx
      have hxl:x.toNat < 256:=x.toNat_lt
      have c1:(i:Int) < 16:=by omega
      have c2:(0:Int)≤(i:Int):=by omega
      have v4:IntKind.i64.wrap ((i:Int)+1)=((i+1:Nat):Int):=by rw [wrap64_eq (by omega) (by omega)];omega
      have x1:IntKind.i64.wrap (x.toNat:Int)=(x.toNat:Int):=wrap64_eq (by omega) (by omega)
      have x2:Int.tdiv (x.toNat:Int) 16=(dgN d (2 * i):Int):=by
        rw [show Int.tdiv (x.toNat:Int) 16=((x.toNat / 16:Nat):Int) from tdiv_n x.toNat 16]
        unfold dgN
        rw [show 2 * i / 2=i by omega,List.getD_eq_getElem?_getD,hx,if_pos (by omega)]
        simp only [Option.getD_some]
        omega
      have x3:IntKind.i64.wrap (dgN d (2 * i):Int)=(dgN d (2 * i):Int):=wrap64_eq (by omega) (by omega)
      have x4:Int.tmod (x.toNat:Int) 16=(dgN d (2 * i+1):Int):=by
        rw [show Int.tmod (x.toNat:Int) 16=((x.toNat % 16:Nat):Int) from tmod_n x.toNat 16]
        unfold dgN
        rw [show (2 * i+1) / 2=i by omega,List.getD_eq_getElem?_getD,hx,if_neg (by omega)]
        simp only [Option.getD_some]
        omega
      have y1:IntKind.i64.wrap ((sumN d (2 * i):Int)+30)=((sumN d (2 * i)+30:Nat):Int):=by rw [wrap64_eq (by omega) (by omega)];omega
      have y2:IntKind.i64.wrap (((sumN d (2 * i)+30:Nat):Int) - (dgN d (2 * i):Int))=((sumN d (2 * i)+30 - dgN d (2 * i):Nat):Int):=by rw [wrap64_eq (by omega) (by omega)];omega
      have y3:IntKind.i64.wrap (((sumN d (2 * i)+30 - dgN d (2 * i):Nat):Int) - (dgN d (2 * i+1):Int))=(sumN d (2 * (i+1)):Int):=by
        rw [wrap64_eq (by omega) (by omega),show 2 * (i+1)=2 * i+1+1 by omega];simp only [sumN];omega
      have ap:ints (dgL d (2 * i))++[.int .i64 (dgN d (2 * i):Int),.int .i64 (dgN d (2 * i+1):Int)]=ints (dgL d (2 * (i+1))):=by
        rw [show 2 * (i+1)=2 * i+1+1 by omega,← dgL_step,← dgL_step]
        simp [ints]
      have tk:List.take (2 * i) (ints (dgL d (2 * i)))=ints (dgL d (2 * i)):=List.take_of_length_le (by rw [len_ints,dgL_len];omega)
      have ln:(dgL d (2 * i)).length=2 * i:=dgL_len d _
      rcases Nat.eq_zero_or_pos i with h0 | h0
      · subst h0
        have ap0:[SV.int .i64 (dgN d (2 * 0):Int),SV.int .i64 (dgN d (2 * 0+1):Int)]=ints (dgL d (2 * (0+1))):=ap
        rw [nlS_z rfl,nlM_z rfl,nlN_z rfl]
        simp (config:={ maxSteps:=1000000 }) only [gx,x1,x2,x3,x4,y1,y2,y3,ap0,Nat.reduceEqDiff,Nat.reduceAdd,Nat.reduceMul,Nat.reduceLeDiff,Int.reduceToNat,Int.reduceLT,Int.reduceLE,Int.reduceAdd,Int.reduceNeg,Int.reduceNe,eq_self,↓reduceIte,↓binI,↓fillE,Opd.ev,Sx.get,put,putO,del,dels,rd,splice,SV.cells?,SV.one,BB,↓PB]
        rw [List.take_of_length_le (by rw [len_ints,dgL_len];omega:(ints (dgL d 2)).length≤2)]
        exact ⟨by rw [dgL_len];omega,by omega,by omega,1,⟨[(0,0),(2,0)],by simp [rD,EntM,compat,apartM,keysBelow,eta,idHs,rd,Nat.reduceAdd,Nat.reduceLeDiff,↓reduceIte,Kind.isOwn,exists_eq_left',ne_eq,implies_true,forall_const,reduceCtorEq,forall_eq,BB],by simp [frEnt,geto,eta,SV.ren,Nat.reduceAdd,Nat.reduceEqDiff,Nat.reduceLeDiff,↓reduceIte,BB]⟩,by omega,by omega⟩
      · have hp:0 < 2 * i:=by omega
        rw [nlS_p hp,nlM_p hp,nlN_p hp]
        simp (config:={ maxSteps:=1000000 }) only [c1,c2,gx,v4,x1,x2,x3,x4,y1,y2,y3,ap,tk,ln,reduceCtorEq,Nat.reduceEqDiff,Nat.reduceAdd,Nat.reduceLeDiff,Int.reduceNe,eq_self,↓reduceIte,↓binI,↓fillE,Opd.ev,Sx.get,put,putO,del,dels,rd,rm,splice,SV.cells?,SV.one,BB,↓PB]
        have hp2:0 < 2 * (i+1):=by omega
        refine ⟨by omega,by omega,i+1,?_,by omega,by omega⟩
        rw [nlS_p hp2,nlM_p hp2,nlN_p hp2]
        exact ⟨[(0,0),(3,0)],by simp [rD,EntM,compat,apartM,keysBelow,eta,idHs,rd,Nat.reduceAdd,Nat.reduceLeDiff,↓reduceIte,Kind.isOwn,exists_eq_left',ne_eq,implies_true,forall_const,reduceCtorEq,forall_eq,BB],by simp [Nat.mul_add,frEnt,geto,eta,SV.ren,Nat.reduceAdd,Nat.reduceEqDiff,Nat.reduceLeDiff,↓reduceIte,BB]⟩
    · obtain rfl:i=16:=by omega
      have hs:=sumN_le d 32
      have w1:Int.tmod (sumN d 32:Int) 16=((sumN d 32 % 16:Nat):Int):=tmod_n (sumN d 32) 16
      have w2:Int.tdiv (sumN d 32:Int) 16=((sumN d 32 / 16:Nat):Int):=tdiv_n (sumN d 32) 16
      have w3:Int.tmod ((sumN d 32 / 16:Nat):Int) 16=((sumN d 32 / 16 % 16:Nat):Int):=tmod_n (sumN d 32 / 16) 16
      have w6:IntKind.i64.wrap ((sumN d 32 / 16:Nat):Int)=((sumN d 32 / 16:Nat):Int):=wrap64_eq (by omega) (by omega)
      have w4:Int.tdiv (sumN d 32:Int) 256=((sumN d 32 / 256 % 16:Nat):Int):=by
        rw [show Int.tdiv (sumN d 32:Int) 256=((sumN d 32 / 256:Nat):Int) from tdiv_n (sumN d 32) 256];omega
      have w5:IntKind.i64.wrap ((sumN d 32 / 256 % 16:Nat):Int)=((sumN d 32 / 256 % 16:Nat):Int):=wrap64_eq (by omega) (by omega)
      have tk:List.take 32 (ints (dgL d 32))=ints (dgL d 32):=List.take_of_length_le (by rw [len_ints,dgL_len];omega)
      have ap:ints (dgL d 32)++[.int .i64 ((sumN d 32 / 256 % 16:Nat):Int),.int .i64 ((sumN d 32 / 16 % 16:Nat):Int),.int .i64 ((sumN d 32 % 16:Nat):Int)]=ints (digS d):=by simp [digS,ints]
      have hp:0 < 2 * 16:=by decide
      rw [nlS_p hp,nlM_p hp,nlN_p hp]
      simp (config:={ maxSteps:=1000000 }) only [w1,w2,w3,w4,w5,w6,ap,tk,reduceCtorEq,Nat.reduceEqDiff,Nat.reduceAdd,Nat.reduceMul,Nat.reduceLeDiff,Int.reduceLT,Int.reduceNe,eq_self,↓reduceIte,↓binI,↓fillE,↓evRes,Opd.ev,Sx.get,put,putO,del,dels,rd,rm,splice,SV.cells?,SV.one,retOf,eta,SV.ren,BB,↓PB]
      exact ⟨by omega,by omega,by rw [dgL_len];omega,[(3,0)],by simp [EntM,compat,apartM,keysBelow,eta,idHs,rd,↓reduceIte,Kind.isOwn,exists_eq_left',ne_eq,implies_true,forall_const,BB],by simp [BB]⟩
def gDigs:GS
  | [.agg cells],[]=>match unB cells with
    | some d=>if d.length=16 then some (.slc 0 0 1 35 (some 35),[(0,⟨.own 157,ints (digS d)⟩)],1) else none
    | none=>none
  | _,_=>none
theorem gDigs_ok:FunS Tryz.prog tS 126 gDigs:=by
  intro a0 m0 r m1 n1 h
  unfold gDigs at h
  split at h
  · split at h
    · rename_i d hd
      split at h
      · rename_i hc
        cases h
        rw [unB_some hd]
        exact ⟨f77 d hc,by simp [freshB]⟩
      · cases h
    · cases h
  · cases h
def gDigsR:GS
  | [.agg cells],[]=>match unB cells with
    | some d=>if d.length=16 then some (.slc 0 0 1 35 none,[(0,⟨.own 3,ints (digS d)⟩)],1) else none
    | none=>none
  | _,_=>none
theorem gDigsR_ok:FunS Tryz.prog tS 132 gDigsR:=by
  intro a0 m0 r m1 n1 h
  unfold gDigsR at h
  split at h
  · split at h
    · rename_i d hd
      split at h
      · rename_i hc
        cases h
        rw [unB_some hd]
        exact ⟨f100 d hc,by simp [freshB]⟩
      · cases h
    · cases h
  · cases h
end Go.Proofs.YtmhkkalbijbplaaGreatDoor

/- One-time signatures: the chains. -/
namespace Go.Proofs.YtmhkkalbijbplaaGreatDoor
open Go Go.Sx
set_option maxRecDepth 100000
set_option linter.unusedVariables false
variable {tS:List (Nat × List SV)}
theorem tHH:∀ x ∈ tH,x ∈ tH2:=by
  intro x hx
  simp only [tH,List.mem_singleton] at hx
  subst hx
  simp [tH2]
def advS (k:Nat):Nat→Nat→List UInt8→List UInt8
  | 0,_,v=>v
  | c+1,h,v=>advS k c (h+1) (ofS 4 [encI k,encI h,v])
theorem advS_len (k:Nat):∀ (c h:Nat) (v:List UInt8),v.length=16→(advS k c h v).length=16
  | 0,_,_,hv=>hv
  | c+1,h,v,_=>advS_len k c (h+1) _ (ofS_len _ _)
theorem okT_3 {tag:Int} {a b c:List UInt8} (ha:a.length≤2 ^ 30) (hb:b.length≤2 ^ 30) (hc:c.length≤2 ^ 30):okT tag [a,b,c]:=by
  refine ⟨fun p hp=>?_,?_,by simp⟩
  · simp only [List.mem_cons,List.not_mem_nil,or_false] at hp
    rcases hp with rfl | rfl | rfl <;> omega
  · have h1:=encI_len (a.length:Int)
    have h2:=encI_len (b.length:Int)
    have h3:=encI_len (c.length:Int)
    simp [ofM,encS]
    omega
theorem gOf_eq3 {tag:Int} {a b c:List UInt8} (ha:a.length≤2 ^ 30) (hb:b.length≤2 ^ 30) (hc:c.length≤2 ^ 30) :
    gOf [.int .i64 tag,.slc 0 0 1 3 none] [(0,⟨.view,[.str a,.str b,.str c]⟩)]=some (.agg (bys (ofS tag [a,b,c])),[],1):=by
  unfold gOf
  simp only
  rw [show [SV.str a,SV.str b,SV.str c]=strs [a,b,c] from rfl,unStr_strs]
  simp only [capB,List.length_cons,List.length_nil]
  rw [if_pos ⟨trivial,okT_3 ha hb hc⟩]
theorem gOfR_eq3 {tag:Int} {a b c:List UInt8} (ha:a.length≤2 ^ 30) (hb:b.length≤2 ^ 30) (hc:c.length≤2 ^ 30) :
    gOfR [.int .i64 tag,.slc 0 0 1 3 none] [(0,⟨.view,[.str a,.str b,.str c]⟩)]=some (.agg (bys (ofS tag [a,b,c])),[],1):=by
  unfold gOfR
  simp only
  rw [show [SV.str a,SV.str b,SV.str c]=strs [a,b,c] from rfl,unStr_strs]
  simp only [capB,List.length_cons,List.length_nil]
  rw [if_pos ⟨trivial,okT_3 ha hb hc⟩]
theorem f93 (n k:Int) (h1:0≤n) (h2:n≤k):Fun Tryz.prog tS 157 [.int .i64 n,.int .i64 k] [] 0 (.bool true) [] 0:=by
  refine fun_pureG none cF cF_ok ck157 (Nat.le_of_ble_eq_true rfl) (fun η=>rfl) ?_
  conv in mkSF _ _=>(reduce;simp only [u8lit,UInt8.reduceOfNat,Int.reduceOfNat,Int.reduceNegSucc])
  rw [exG_mk]
  have c1:n ≥ 0:=h1
  simp (config:={ maxSteps:=1000000 }) only [c1,h2,reduceCtorEq,Nat.reduceEqDiff,↓reduceIte,BC,↓PC]
def gWith:List SV→Option SV
  | [.int .i64 n,.int .i64 k]=>if 0≤n∧n≤k then some (.bool true) else none
  | _=>none
theorem gWith_eq {n k:Int} (h1:0≤n) (h2:n≤k):gWith [.int .i64 n,.int .i64 k]=some (.bool true):=if_pos ⟨h1,h2⟩
def tabWd:Tab:=⟨[(157,gWith)],[]⟩
theorem tabWd_ok:TabX Tryz.prog tS tabWd:=by
  refine ⟨fun x h args r hr=>?_,fun x h=>by simp [tabWd] at h⟩
  simp only [tabWd,List.mem_singleton] at h
  subst h
  simp only at hr
  unfold gWith at hr
  split at hr
  · split at hr
    · rename_i hc
      cases hr
      exact ⟨f93 _ _ hc.1 hc.2,fun η=>by simp only [SV.renL,SV.ren],fun η=>by simp only [SV.renL,SV.ren]⟩
    · cases hr
  · cases hr
def tabAv:List (FuncId × GS):=[(45,gInt),(131,gOf)]
theorem tabAv_ok:∀ x ∈ tabAv,FunS Tryz.prog tH2 x.1 x.2:=by
  intro x hx
  simp only [tabAv,List.mem_cons,List.not_mem_nil,or_false] at hx
  rcases hx with rfl | rfl
  · exact gInt_ok
  · exact gOf_ok.more tHH
def cAv:CallT:=callS tabAv (callX tabWd)
theorem cAv_ok:∀ f a m n K,cAv f a m n K→callT Tryz.prog tH2 f a m n K:=callS_ok tabAv_ok (callX_ok tabWd_ok)
set_option maxHeartbeats 4000000 in
theorem f80 (k h:Nat) (v:List UInt8) (hk:k≤34) (hh:h≤15) (hv:v.length=16) :
    Fun Tryz.prog tH2 129 [.int .i64 (k:Int),.int .i64 (h:Int),.int .i64 15,.agg (bys v)] [] 0 (.agg (bys (advS k (15 - h) h v))) [] 0:=by
  refine fun_pureG none cAv cAv_ok ck129 (Nat.le_of_ble_eq_true rfl) (fun η=>by simp only [SV.ren,ren_bytes]) ?_
  conv in mkSF _ _=>(reduce;simp only [u8lit,UInt8.reduceOfNat,Int.reduceOfNat,Int.reduceNegSucc])
  rw [exG_mk]
  have hl:(bys v).length=16:=by rw [len_bytes,hv]
  have w1:=gWith_eq (n:=(k:Int)) (k:=34) (by omega) (by omega)
  have w2:=gWith_eq (n:=(h:Int)) (k:=15) (by omega) (by omega)
  have w3:=gWith_eq (n:=15) (k:=15) (by omega) (by omega)
  have au:=all_isU8 (encI (k:Int))
  have mb:=map_byteOf (encI (k:Int))
  have tb:=take_bytes (encI (k:Int))
  simp (config:={ maxSteps:=1000000 }) only [cAv,tabAv,tabWd,gInt,↓w1,↓w2,↓w3,au,mb,tb,reduceCtorEq,Nat.reduceEqDiff,Nat.reduceAdd,↓reduceIte,BC,↓PC]
  rw [den_loop]
  have rz:∀ η,SV.renL η z16=z16:=fun η=>SV.flatL_ren η z16 rfl
  have rB:∀ η b,SV.renL η (bys b)=bys b:=fun η b=>ren_bytes η b
  refine den_inv cAv_ok (σ:=Nat × List UInt8) (fun x=>[(10,.int .i64 (x.1:Int)),(9,.str (encI (k:Int))),(8,.ptr 1 0),(7,.ptr 0 0),(2,.int .i64 15)]) (fun x=>[(1,⟨.own 24,z16⟩),(0,⟨.own 24,bys x.2⟩)]) (fun _=>2)
    (fun x=>x.1≤15∧x.2.length=16∧advS k (15 - x.1) x.1 x.2=advS k (15 - h) h v) (fun x=>15 - x.1) (h,v) ?_ ⟨hh,hv,rfl⟩ ?_
  · exact ⟨[(0,0),(1,0)],by simp only [rB,rz,Nat.reduceAdd,Nat.reduceSub,Nat.reduceLT,Nat.reduceLeDiff,↓reduceIte,reduceCtorEq,BC] <;> rfl,by simp [Nat.reduceAdd,Nat.reduceEqDiff,Nat.reduceLeDiff,↓reduceIte,BC]⟩
  · rintro ⟨j,u⟩ ⟨hj,hu,he⟩
    simp only at hj hu he ⊢
    have hlu:(bys u).length=16:=by rw [len_bytes,hu]
    by_cases hj2:j < 15
    · have c1:(j:Int) < 15:=by omega
      have v4:IntKind.i64.wrap ((j:Int)+1)=((j+1:Nat):Int):=by rw [wrap64_eq (by omega) (by omega)];omega
      have e1:=encI_len (k:Int)
      have e2:=encI_len (j:Int)
      have go:=gOf_eq3 (tag:=4) (a:=encI (k:Int)) (b:=encI (j:Int)) (c:=u) (by omega) (by omega) (by omega)
      have au1:=all_isU8 (encI (j:Int))
      have mb1:=map_byteOf (encI (j:Int))
      have tb1:=take_bytes (encI (j:Int))
      have au2:=all_isU8 u
      have mb2:=map_byteOf u
      have tb2:List.take 16 (bys u)=bys u:=List.take_of_length_le (by omega)
      rw [show 15 - j=(15 - (j+1))+1 by omega] at he
      simp only [advS] at he
      have hO:=ofS_len 4 [encI (k:Int),encI (j:Int),u]
      generalize ofS 4 [encI (k:Int),encI (j:Int),u]=O at *
      have lO:(bys O).length=16:=by rw [len_bytes,hO]
      have dU:List.drop 16 (bys u)=[]:=List.drop_of_length_le (by omega)
      simp (config:={ maxSteps:=1000000 }) only [gInt,↓go,hlu,c1,v4,au1,mb1,tb1,au2,mb2,tb2,lO,dU,reduceCtorEq,Nat.reduceEqDiff,Nat.reduceAdd,Nat.reduceSub,Nat.reduceLeDiff,Nat.reduceLT,Int.reduceToNat,Int.reduceLE,↓reduceIte,evA,upd,splice,BC,↓PC]
      exact ⟨(j+1,O),⟨[(0,0),(1,0)],by simp only [rB,rz,Nat.reduceAdd,Nat.reduceSub,Nat.reduceEqDiff,Nat.reduceLT,Nat.reduceLeDiff,↓reduceIte,reduceCtorEq,BC],by simp [Nat.reduceAdd,Nat.reduceEqDiff,Nat.reduceLeDiff,↓reduceIte,BC]⟩,⟨by simp only;omega,hO,he⟩,by simp only;omega⟩
    · obtain rfl:j=15:=by omega
      have tb2:List.take 16 (bys u)=bys u:=List.take_of_length_le (by omega)
      simp (config:={ maxSteps:=1000000 }) only [hlu,tb2,reduceCtorEq,Nat.reduceEqDiff,Int.reduceLT,↓reduceIte,upd,BC,↓PC]
      have e0:u=advS k (15 - h) h v:=he
      rw [← e0,splice_all (show (bys u).length=z16.length by rw [hlu];rfl)]
      exact ⟨by decide,by omega,tb2⟩
def gAdv:List SV→Option SV
  | [.int .i64 (.ofNat k),.int .i64 (.ofNat h),.int .i64 15,.agg cells]=>match unB cells with
    | some v=>if k≤34∧h≤15∧v.length=16 then some (.agg (bys (advS k (15 - h) h v))) else none
    | none=>none
  | _=>none
theorem gAdv_eq {k h:Nat} {v:List UInt8} (hk:k≤34) (hh:h≤15) (hv:v.length=16):gAdv [.int .i64 (k:Int),.int .i64 (h:Int),.int .i64 15,.agg (bys v)]=some (.agg (bys (advS k (15 - h) h v))):=by
  show gAdv [.int .i64 (.ofNat k),.int .i64 (.ofNat h),.int .i64 15,.agg (bys v)]=_
  unfold gAdv
  simp only [unB_bytes]
  rw [if_pos ⟨hk,hh,hv⟩]
theorem gAdv_of {f:FuncId} (H:∀ (k h:Nat) (v:List UInt8),k≤34→h≤15→v.length=16→Fun Tryz.prog tH2 f [.int .i64 (k:Int),.int .i64 (h:Int),.int .i64 15,.agg (bys v)] [] 0 (.agg (bys (advS k (15 - h) h v))) [] 0):TabX Tryz.prog tH2 ⟨[(f,gAdv)],[]⟩:=by
  refine ⟨fun x h args r hr=>?_,fun x h=>by simp at h⟩
  simp only [List.mem_singleton] at h
  subst h
  simp only at hr
  unfold gAdv at hr
  split at hr
  · split at hr
    · rename_i v hv
      split at hr
      · rename_i hc
        cases hr
        rw [unB_some hv]
        exact ⟨H _ _ v hc.1 hc.2.1 hc.2.2,fun η=>by simp only [SV.renL,SV.ren,ren_bytes],fun η=>by simp only [SV.renL,SV.ren,ren_bytes]⟩
      · cases hr
    · cases hr
  · cases hr
theorem tabA80:TabX Tryz.prog tH2 ⟨[(129,gAdv)],[]⟩:=gAdv_of f80
theorem gIntR_eq {n:Int} (h:R64 n):gIntR [.int .i64 n] []=some (.slc 0 0 1 (encI n).length none,[(0,⟨.own 5,bys (encI n)⟩)],1):=by
  rw [enc_same h];rfl
def tabAr:List (FuncId × GS):=[(49,gIntR),(47,gText),(76,gOfR)]
theorem tabAr_ok:∀ x ∈ tabAr,FunS Tryz.prog tH2 x.1 x.2:=by
  intro x hx
  simp only [tabAr,List.mem_cons,List.not_mem_nil,or_false] at hx
  rcases hx with rfl | rfl | rfl
  · exact gIntR_ok
  · exact gText_ok
  · exact gOfR_ok
def cAr:CallT:=callS tabAr cF
theorem cAr_ok:∀ f a m n K,cAr f a m n K→callT Tryz.prog tH2 f a m n K:=callS_ok tabAr_ok cF_ok
set_option maxHeartbeats 4000000 in
theorem f101 (k h:Nat) (v:List UInt8) (hk:k≤34) (hh:h≤15) (hv:v.length=16) :
    Fun Tryz.prog tH2 133 [.int .i64 (k:Int),.int .i64 (h:Int),.int .i64 15,.agg (bys v)] [] 0 (.agg (bys (advS k (15 - h) h v))) [] 0:=by
  refine fun_pureG none cAr cAr_ok ck133 (Nat.le_of_ble_eq_true rfl) (fun η=>by simp only [SV.ren,ren_bytes]) ?_
  conv in mkSF _ _=>(reduce;simp only [u8lit,UInt8.reduceOfNat,Int.reduceOfNat,Int.reduceNegSucc])
  rw [exG_mk]
  have hl:(bys v).length=16:=by rw [len_bytes,hv]
  have n1:¬ (k:Int) < 0:=by omega
  have n2:¬ (k:Int) > 34:=by omega
  have n3:¬ (h:Int) < 0:=by omega
  have n4:¬ (h:Int) > 15:=by omega
  simp (config:={ maxSteps:=1000000 }) only [cAr,tabAr,n1,n2,n3,n4,Int.reduceGT,reduceCtorEq,Nat.reduceEqDiff,Nat.reduceAdd,Int.reduceLT,↓reduceIte,BC,↓PC]
  rw [den_loop]
  have rz:∀ η,SV.renL η z16=z16:=fun η=>SV.flatL_ren η z16 rfl
  have rB:∀ η b,SV.renL η (bys b)=bys b:=fun η b=>ren_bytes η b
  refine den_inv cAr_ok (σ:=Nat × List UInt8) (fun x=>[(9,.int .i64 (x.1:Int)),(8,.ptr 1 0),(7,.ptr 0 0),(2,.int .i64 15),(0,.int .i64 (k:Int))]) (fun x=>[(1,⟨.own 24,z16⟩),(0,⟨.own 24,bys x.2⟩)]) (fun _=>2)
    (fun x=>x.1≤15∧x.2.length=16∧advS k (15 - x.1) x.1 x.2=advS k (15 - h) h v) (fun x=>15 - x.1) (h,v) ?_ ⟨hh,hv,rfl⟩ ?_
  · exact ⟨[(0,0),(1,0)],by simp only [rB,rz,Nat.reduceAdd,Nat.reduceSub,Nat.reduceLT,Nat.reduceLeDiff,↓reduceIte,BC] <;> rfl,by simp [Nat.reduceAdd,Nat.reduceEqDiff,Nat.reduceLeDiff,↓reduceIte,reduceCtorEq,BC]⟩
  · rintro ⟨j,u⟩ ⟨hj,hu,he⟩
    simp only at hj hu he ⊢
    have hlu:(bys u).length=16:=by rw [len_bytes,hu]
    by_cases hj2:j < 15
    · have c1:(j:Int) < 15:=by omega
      have v4:IntKind.i64.wrap ((j:Int)+1)=((j+1:Nat):Int):=by rw [wrap64_eq (by omega) (by omega)];omega
      have e1:=encI_len (k:Int)
      have e2:=encI_len (j:Int)
      have go:=gOfR_eq3 (tag:=4) (a:=encI (k:Int)) (b:=encI (j:Int)) (c:=u) (by omega) (by omega) (by omega)
      have gi1:=gIntR_eq (n:=(k:Int)) ⟨by omega,by omega⟩
      have gi2:=gIntR_eq (n:=(j:Int)) ⟨by omega,by omega⟩
      have au0:=all_isU8 (encI (k:Int))
      have mb0:=map_byteOf (encI (k:Int))
      have tb0:=take_bytes (encI (k:Int))
      have au1:=all_isU8 (encI (j:Int))
      have mb1:=map_byteOf (encI (j:Int))
      have tb1:=take_bytes (encI (j:Int))
      have tb2:List.take 16 (bys u)=bys u:=List.take_of_length_le (by omega)
      rw [show 15 - j=(15 - (j+1))+1 by omega] at he
      simp only [advS] at he
      have hO:=ofS_len 4 [encI (k:Int),encI (j:Int),u]
      generalize ofS 4 [encI (k:Int),encI (j:Int),u]=O at *
      have lO:(bys O).length=16:=by rw [len_bytes,hO]
      have dU:List.drop 16 (bys u)=[]:=List.drop_of_length_le (by omega)
      have fb:=flat_bytes u
      simp (config:={ maxSteps:=1000000 }) only [gText,↓gi1,↓gi2,unB_bytes,↓go,hlu,hu,fb,c1,v4,au0,mb0,tb0,au1,mb1,tb1,tb2,lO,dU,reduceCtorEq,Nat.reduceEqDiff,Nat.reduceAdd,Nat.reduceSub,Nat.reduceLeDiff,Nat.reduceLT,↓reduceIte,evA,upd,splice,BC,↓PC]
      exact ⟨(j+1,O),⟨[(0,0),(1,0)],by simp only [rB,rz,Nat.reduceAdd,Nat.reduceSub,Nat.reduceEqDiff,Nat.reduceLT,Nat.reduceLeDiff,↓reduceIte,reduceCtorEq,BC],by simp [Nat.reduceAdd,Nat.reduceEqDiff,Nat.reduceLeDiff,↓reduceIte,reduceCtorEq,BC]⟩,⟨by simp only;omega,hO,he⟩,by simp only;omega⟩
    · obtain rfl:j=15:=by omega
      have tb2:List.take 16 (bys u)=bys u:=List.take_of_length_le (by omega)
      simp (config:={ maxSteps:=1000000 }) only [hlu,tb2,reduceCtorEq,Nat.reduceEqDiff,Int.reduceLT,↓reduceIte,upd,BC,↓PC]
      have e0:u=advS k (15 - h) h v:=he
      rw [← e0,splice_all (show (bys u).length=z16.length by rw [hlu];rfl)]
      exact ⟨by decide,by omega,tb2⟩
theorem tabA101:TabX Tryz.prog tH2 ⟨[(133,gAdv)],[]⟩:=gAdv_of f101
end Go.Proofs.YtmhkkalbijbplaaGreatDoor

/- strings.Builder: Write and String. -/
namespace Go.Proofs.YtmhkkalbijbplaaGreatDoor
open Go Go.Sx
set_option maxRecDepth 100000
set_option linter.unusedVariables false
variable {tS:List (Nat × List SV)}
theorem f105a:Fun Tryz.prog tS 168 [.ptr 0 0] [(0,⟨.own 160,[.val (.pointer none),.val (.slice none 0 0)]⟩)] 1 (.tup []) [(0,⟨.own 160,[.ptr 0 0,.val (.slice none 0 0)]⟩)] 1:=by
  refine fun_anyG none cF cF_ok ck168 (Nat.le_of_ble_eq_true rfl) (by decide) ?_
  conv in mkSF _ _=>(reduce;simp only [u8lit,UInt8.reduceOfNat,Int.reduceOfNat,Int.reduceNegSucc])
  rw [exG_mk]
  simp (config:={ maxSteps:=1000000 }) only [reduceCtorEq,Nat.reduceEqDiff,Nat.reduceAdd,Nat.reduceLeDiff,↓reduceIte,upd,splice,BC,↓PC]
  exact ⟨[(0,0)],by simp [↓reduceIte,BC]⟩
theorem f105b (b:List UInt8) (k:Nat):Fun Tryz.prog tS 168 [.ptr 0 0] [(0,⟨.own 160,[.ptr 0 0,.slc 1 0 1 k none]⟩),(1,⟨.own 5,bys b⟩)] 2 (.tup []) [(0,⟨.own 160,[.ptr 0 0,.slc 1 0 1 k none]⟩),(1,⟨.own 5,bys b⟩)] 2:=by
  refine fun_anyG none cF cF_ok ck168 (Nat.le_of_ble_eq_true rfl) (by decide) ?_
  conv in mkSF _ _=>(reduce;simp only [u8lit,UInt8.reduceOfNat,Int.reduceOfNat,Int.reduceNegSucc])
  rw [exG_mk]
  simp (config:={ maxSteps:=1000000 }) only [reduceCtorEq,Nat.reduceEqDiff,↓reduceIte,BC,↓PC]
  exact ⟨[(0,0),(1,0)],by simp [Nat.reduceAdd,Nat.reduceLeDiff,↓reduceIte,BC]⟩
theorem f92 (b:List UInt8) (h0:0 < b.length) (hb:b.length≤2 ^ 40):Fun Tryz.prog tS 156 [.ptr 0 0] [(0,⟨.own 160,[.ptr 0 0,.slc 1 0 1 b.length none]⟩),(1,⟨.own 5,bys b⟩)] 2 (.str b) [] 2:=by
  refine fun_anyG none cF cF_ok ck156 (Nat.le_of_ble_eq_true rfl) (by decide) ?_
  conv in mkSF _ _=>(reduce;simp only [u8lit,UInt8.reduceOfNat,Int.reduceOfNat,Int.reduceNegSucc])
  rw [exG_mk]
  have hl:=len_bytes b
  have tb:=take_bytes b
  have i0:(0:Int) < (b.length:Int):=by omega
  have i1:(b.length:Int)≤9223372036854775807:=by omega
  have i2:1≤b.length:=h0
  have ab:(bys b).all isByte=true:=by simp [bys,List.all_eq_true,isByte_byte]
  have mb:=map_byteOf b
  simp (config:={ maxSteps:=1000000 }) only [hl,tb,i0,i1,i2,ab,mb,reduceCtorEq,Nat.reduceEqDiff,↓reduceIte,evA,upd,BC,↓PC]
  exact ⟨[(0,0),(1,0)],rfl,by simp [compat,apartM,keysBelow,idHs,BB]⟩
theorem f91a (p:List UInt8) (hp:p.length≤2 ^ 38) (cap:Option Nat):Fun Tryz.prog tS 155 [.ptr 0 0,.slc 1 0 1 p.length cap] [(0,⟨.own 160,[.val (.pointer none),.val (.slice none 0 0)]⟩),(1,⟨.view,bys p⟩)] 2
    (.tup [.int .i64 (p.length:Int),.val .nilIface]) [(0,⟨.own 160,[.ptr 0 0,.slc 2 0 1 p.length none]⟩),(2,⟨.own 5,bys p⟩)] 3:=by
  refine fun_anyG none (callAnd 168 (callT Tryz.prog tS) cF) (callAnd_ok cF_ok) ck155 (Nat.le_of_ble_eq_true rfl) (by decide) ?_
  conv in mkSF _ _=>(reduce;simp only [u8lit,UInt8.reduceOfNat,Int.reduceOfNat,Int.reduceNegSucc])
  rw [exG_mk]
  simp (config:={ maxSteps:=1000000 }) only [reduceCtorEq,Nat.reduceEqDiff,↓reduceIte,BC,↓PC]
  refine ⟨[(0,0)],_,_,_,_,1,f105a,rfl,⟨⟨_,rfl,rfl,rfl,rfl⟩,trivial⟩,⟨by simp,trivial⟩,⟨by decide,trivial⟩,by simp,⟨fun _=>rfl,trivial⟩,?_⟩
  have tp:=take_bytes p
  have hl:=len_bytes p
  simp (config:={ maxSteps:=1000000 }) only [tp,hl,reduceCtorEq,Nat.reduceEqDiff,Nat.reduceAdd,Nat.reduceSub,↓reduceIte,upd,splice,BC,↓PC]
  exact ⟨by omega,by omega,[(0,0),(1,0),(2,0)],rfl,by simp [compat,apartM,keysBelow,eta,idHs,rd,SV.ren,SV.renL,Nat.reduceAdd,Nat.reduceLeDiff,↓reduceIte,Kind.isOwn,exists_eq_left',ne_eq,implies_true,forall_const,reduceCtorEq,forall_eq,BB]⟩
theorem f91b (b p:List UInt8) (hp:b.length+p.length≤2 ^ 38) (cap:Option Nat):Fun Tryz.prog tS 155 [.ptr 0 0,.slc 2 0 1 p.length cap] [(0,⟨.own 160,[.ptr 0 0,.slc 1 0 1 b.length none]⟩),(1,⟨.own 5,bys b⟩),(2,⟨.view,bys p⟩)] 3
    (.tup [.int .i64 (p.length:Int),.val .nilIface]) [(0,⟨.own 160,[.ptr 0 0,.slc 3 0 1 (b.length+p.length) none]⟩),(3,⟨.own 5,bys (b++p)⟩)] 4:=by
  refine fun_anyG none (callAnd 168 (callT Tryz.prog tS) cF) (callAnd_ok cF_ok) ck155 (Nat.le_of_ble_eq_true rfl) (by decide) ?_
  conv in mkSF _ _=>(reduce;simp only [u8lit,UInt8.reduceOfNat,Int.reduceOfNat,Int.reduceNegSucc])
  rw [exG_mk]
  simp (config:={ maxSteps:=1000000 }) only [reduceCtorEq,Nat.reduceEqDiff,↓reduceIte,BC,↓PC]
  refine ⟨[(0,0),(1,0)],_,_,_,_,2,f105b b b.length,rfl,⟨⟨_,rfl,rfl,rfl,rfl⟩,⟨_,rfl,rfl,rfl,(ren_bytes _ b).symm⟩,trivial⟩,⟨by intro x hx;simp at hx;subst hx;intro _;show (0:Nat)≠1;decide,⟨by simp,trivial⟩⟩,⟨by decide,by decide,trivial⟩,by intro x hx;simp at hx;rcases hx with rfl | rfl <;> decide,⟨fun _=>rfl,fun _=>rfl,trivial⟩,?_⟩
  have tp:=take_bytes p
  have tb:=take_bytes b
  have hl:=len_bytes p
  have hlb:=len_bytes b
  simp (config:={ maxSteps:=1000000 }) only [tp,tb,hl,hlb,bytes_app,reduceCtorEq,Nat.reduceEqDiff,Nat.reduceAdd,Nat.reduceSub,↓reduceIte,upd,splice,BC,↓PC]
  exact ⟨by omega,by omega,[(0,0),(1,0),(2,0),(3,0)],rfl,by simp [compat,apartM,keysBelow,eta,idHs,rd,SV.ren,SV.renL,Nat.reduceAdd,Nat.reduceLeDiff,↓reduceIte,Kind.isOwn,exists_eq_left',ne_eq,implies_true,forall_const,reduceCtorEq,forall_eq,BB]⟩
end Go.Proofs.YtmhkkalbijbplaaGreatDoor

/- One-time signatures: the public key for which a signature is valid. -/
namespace Go.Proofs.YtmhkkalbijbplaaGreatDoor
open Go Go.Sx
set_option maxRecDepth 100000
set_option linter.unusedVariables false
def partS (sig:List UInt8) (k:Nat):List UInt8:=(sig.drop (16 * k)).take 16
def digT (d:List UInt8) (k:Nat):Nat:=((digS d).getD k 0).toNat
def endS (d sig:List UInt8) (k:Nat):List UInt8:=advS k (15 - digT d k) (digT d k) (partS sig k)
theorem partS_len {sig:List UInt8} {k:Nat} (hs:sig.length=560) (hk:k < 35):(partS sig k).length=16:=by simp [partS,hs];omega
theorem digT_get (d:List UInt8) {k:Nat} (hk:k < 35):digT d k≤15∧(digS d)[k]?=some (digT d k:Int):=by
  obtain ⟨t,h1,h2⟩:=digS_rng d k hk
  unfold digT
  rw [List.getD_eq_getElem?_getD,h2]
  simp
  exact h1
theorem endS_len {d sig:List UInt8} {k:Nat} (hs:sig.length=560) (hk:k < 35):(endS d sig k).length=16:=advS_len _ _ _ _ (partS_len hs hk)
def endsS (d sig:List UInt8) (k:Nat):List UInt8:=((List.range k).map (endS d sig)).flatten
theorem endsS_step (d sig:List UInt8) (k:Nat):endsS d sig k++endS d sig k=endsS d sig (k+1):=by
  unfold endsS
  rw [List.range_succ,List.map_append,List.flatten_append]
  simp
theorem endsS_len {d sig:List UInt8} (hs:sig.length=560):∀ {k:Nat},k≤35→(endsS d sig k).length=16 * k
  | 0,_=>rfl
  | k+1,hk=>by
    rw [← endsS_step,List.length_append,endsS_len hs (by omega),endS_len hs (by omega)]
    omega
def cA80:CallT:=callX ⟨[(129,gAdv)],[]⟩
theorem cA80_ok:∀ f a m n K,cA80 f a m n K→callT Tryz.prog tH2 f a m n K:=callX_ok tabA80
set_option maxHeartbeats 4000000 in
theorem f79 (d sig:List UInt8) (k:Nat) (hs:sig.length=560) (hk:k < 35) :
    Fun Tryz.prog tH2 138 [.int .i64 (k:Int),.ptr 0 0,.ptr 1 0] [(0,⟨.own 9,[.str sig]⟩),(1,⟨.own 63,[.slc 2 0 1 35 (some 35)]⟩),(2,⟨.view,ints (digS d)⟩)] 3
      (.agg (bys (endS d sig k))) [(0,⟨.own 9,[.str sig]⟩),(1,⟨.own 63,[.slc 2 0 1 35 (some 35)]⟩)] 3:=by
  refine fun_anyG none cA80 cA80_ok ck138 (Nat.le_of_ble_eq_true rfl) (by decide) ?_
  conv in mkSF _ _=>(reduce;simp only [u8lit,UInt8.reduceOfNat,Int.reduceOfNat,Int.reduceNegSucc])
  rw [exG_mk]
  obtain ⟨ht,hg⟩:=digT_get d hk
  have gg:=get_ints hg
  have hp:=partS_len hs hk
  have w1:IntKind.i64.wrap ((k:Int) * 16)=((16 * k:Nat):Int):=by rw [wrap64_eq (by omega) (by omega)];omega
  have w2:IntKind.i64.wrap ((k:Int)+1)=((k+1:Nat):Int):=by rw [wrap64_eq (by omega) (by omega)];omega
  have w3:IntKind.i64.wrap (((k+1:Nat):Int) * 16)=((16 * k+16:Nat):Int):=by rw [wrap64_eq (by omega) (by omega)];omega
  have b1:(0:Int)≤((16 * k:Nat):Int):=by omega
  have b2:((16 * k:Nat):Int)≤((16 * k+16:Nat):Int):=by omega
  have b3:((16 * k+16:Nat):Int)≤(sig.length:Int):=by omega
  have b4:16 * k+16 - 16 * k=16:=by omega
  have ps:List.take 16 (List.drop (16 * k) sig)=partS sig k:=rfl
  have ga:=gAdv_eq (k:=k) (h:=digT d k) (v:=partS sig k) (by omega) ht hp
  have ee:advS k (15 - digT d k) (digT d k) (partS sig k)=endS d sig k:=rfl
  have hel:=endS_len (d:=d) hs hk
  have c2:(0:Int)≤(k:Int):=by omega
  have c3:(k:Int) < 35:=by omega
  have dl:=digS_len d
  have lp:(bys (partS sig k)).length=16:=by rw [len_bytes,hp]
  have tp:List.take 16 (bys (partS sig k))=bys (partS sig k):=List.take_of_length_le (by omega)
  rw [ee] at ga
  have le:(bys (endS d sig k)).length=16:=by rw [len_bytes,hel]
  have te:List.take 16 (bys (endS d sig k))=bys (endS d sig k):=List.take_of_length_le (by omega)
  simp (config:={ maxSteps:=1000000 }) only [cA80,w1,w2,w3,b1,b2,b3,b4,ps,↓ga,gg,c2,c3,dl,hp,lp,tp,le,te,reduceCtorEq,Nat.reduceEqDiff,Nat.reduceAdd,Nat.reduceLT,↓reduceIte,upd,splice,BC,↓PC]
  exact ⟨hk,[(0,0),(1,0),(2,0)],rfl,by simp [compat,apartM,keysBelow,eta,idHs,rd,SV.ren,SV.renL,Nat.reduceAdd,Nat.reduceEqDiff,Nat.reduceLT,Nat.reduceLeDiff,↓reduceIte,Kind.isOwn,exists_eq_left',ne_eq,implies_true,forall_const,reduceCtorEq,forall_eq,BB]⟩
def joinM (d sig:List UInt8):Nat→Mem
  | 0=>[(3,⟨.own 160,[.val (.pointer none),.val (.slice none 0 0)]⟩),(0,⟨.own 9,[.str sig]⟩),(1,⟨.own 63,[.slc 2 0 1 35 (some 35)]⟩),(2,⟨.view,ints (digS d)⟩)]
  | k+1=>[(4,⟨.own 5,bys (endsS d sig (k+1))⟩),(3,⟨.own 160,[.ptr 3 0,.slc 4 0 1 (16 * (k+1)) none]⟩),(0,⟨.own 9,[.str sig]⟩),(1,⟨.own 63,[.slc 2 0 1 35 (some 35)]⟩),(2,⟨.view,ints (digS d)⟩)]
def joinB:Nat→Nat
  | 0=>4
  | _+1=>5
theorem call79 {d sig:List UInt8} {k:Nat} {m:Mem} {n:Nat} {K:Kt} (hs:sig.length=560) (hk:k < 35) (h0:rd m 0=some ⟨.own 9,[.str sig]⟩) (h1:rd m 1=some ⟨.own 63,[.slc 2 0 1 35 (some 35)]⟩)
    (h2:rd m 2=some ⟨.view,ints (digS d)⟩) (hn:3≤n) (hK:K (.agg (bys (endS d sig k))) ([(0,⟨.own 9,[.str sig]⟩),(1,⟨.own 63,[.slc 2 0 1 35 (some 35)]⟩)]++rms m [0,1]) n) :
    callT Tryz.prog tH2 138 [.int .i64 (k:Int),.ptr 0 0,.ptr 1 0] m n K:=by
  refine ⟨[(0,0),(1,0),(2,0)],_,_,_,_,3,f79 d sig k hs hk,rfl,⟨⟨_,h0,rfl,rfl,rfl⟩,⟨_,h1,rfl,rfl,rfl⟩,⟨_,h2,Nat.le_of_eq (Nat.zero_add _),?_⟩,trivial⟩,
    ⟨by intro x hx;simp at hx;rcases hx with rfl | rfl <;> (intro _;simp [eta]),⟨by intro x hx;simp at hx;subst hx;intro _;simp [eta],⟨by simp,trivial⟩⟩⟩,⟨by decide,by decide,by decide,trivial⟩,
    by intro x hx;simp at hx;rcases hx with rfl | rfl | rfl <;> (simp only;omega),⟨fun _=>rfl,fun _=>rfl,trivial⟩,?_⟩
  · simp only [eta,BB]
  · have e:(SV.agg (bys (endS d sig k))).ren (eta [(0,0),(1,0),(2,0)] n)=.agg (bys (endS d sig k)):=by simp only [SV.ren,ren_bytes]
    rw [e]
    exact hK
def cJn:CallT:=callAnd 138 (callT Tryz.prog tH2) (callAnd 155 (callT Tryz.prog tH2) (callAnd 156 (callT Tryz.prog tH2) cF))
theorem cJn_ok:∀ f a m n K,cJn f a m n K→callT Tryz.prog tH2 f a m n K:=callAnd_ok (callAnd_ok (callAnd_ok cF_ok))
set_option maxHeartbeats 4000000 in
theorem f78 (d sig:List UInt8) (hs:sig.length=560) :
    Fun Tryz.prog tH2 127 [.fn 138 [] [.ptr 0 0,.ptr 1 0]] [(0,⟨.own 9,[.str sig]⟩),(1,⟨.own 63,[.slc 2 0 1 35 (some 35)]⟩),(2,⟨.view,ints (digS d)⟩)] 3
      (.str (endsS d sig 35)) [(0,⟨.own 9,[.str sig]⟩),(1,⟨.own 63,[.slc 2 0 1 35 (some 35)]⟩)] 3:=by
  refine fun_anyG none cJn cJn_ok ck127 (Nat.le_of_ble_eq_true rfl) (by decide) ?_
  conv in mkSF _ _=>(reduce;simp only [u8lit,UInt8.reduceOfNat,Int.reduceOfNat,Int.reduceNegSucc])
  rw [exG_mk]
  simp (config:={ maxSteps:=1000000 }) only [cJn,reduceCtorEq,Nat.reduceEqDiff,Nat.reduceAdd,↓reduceIte,BC,↓PC]
  rw [den_loop]
  have rI:∀ η,SV.renL η (ints (digS d))=ints (digS d):=fun η=>ren_ints η _
  refine den_inv cJn_ok (σ:=Nat) (fun k=>[(6,.int .i64 (k:Int)),(3,.ptr 3 0),(0,.fn 138 [] [.ptr 0 0,.ptr 1 0])]) (joinM d sig) joinB
    (fun k=>k≤35) (fun k=>35 - k) 0 ?_ (Nat.zero_le _) ?_
  · exact ⟨[(0,0),(1,0),(2,0),(3,0)],by simp only [joinM,joinB,rI,Nat.reduceAdd,Nat.reduceSub,Nat.reduceEqDiff,Nat.reduceLT,Nat.reduceLeDiff,↓reduceIte,reduceCtorEq,BC],by simp [Nat.reduceAdd,Nat.reduceEqDiff,Nat.reduceLT,Nat.reduceLeDiff,↓reduceIte,reduceCtorEq,BC]⟩
  · intro k hk
    by_cases h35:k < 35
    · have hel:=endS_len (d:=d) hs h35
      have hstp:=endsS_step d sig k
      have hlk:=endsS_len (d:=d) hs hk
      have c1:(k:Int) < 35:=by omega
      have v4:IntKind.i64.wrap ((k:Int)+1)=((k+1:Nat):Int):=by rw [wrap64_eq (by omega) (by omega)];omega
      have le:(bys (endS d sig k)).length=16:=by rw [len_bytes,hel]
      have te:List.take 16 (bys (endS d sig k))=bys (endS d sig k):=List.take_of_length_le (by omega)
      cases k with
      | zero=>
        simp only [joinM,joinB]
        simp (config:={ maxSteps:=1000000 }) only [reduceCtorEq,Nat.reduceEqDiff,Int.reduceLT,↓reduceIte,BC,↓PC]
        refine call79 (k:=0) hs h35 rfl rfl rfl (by decide) ?_
        simp (config:={ maxSteps:=1000000 }) only [le,reduceCtorEq,Nat.reduceEqDiff,Nat.reduceAdd,Int.reduceToNat,Int.reduceLE,↓reduceIte,upd,splice,BC,↓PC]
        have f91:=f91a (tS:=tH2) (endS d sig 0) (by omega) (some 16)
        rw [hel] at f91
        refine ⟨[(3,0),(4,0)],_,_,_,_,3,f91,rfl,⟨⟨_,rfl,rfl,rfl,rfl⟩,⟨_,rfl,Nat.le_of_eq (Nat.zero_add _),?_⟩,trivial⟩,
          ⟨by intro x hx;simp at hx;subst hx;intro _;simp [eta],⟨by simp,trivial⟩⟩,⟨by decide,by decide,trivial⟩,by intro x hx;simp at hx;rcases hx with rfl | rfl <;> decide,⟨fun _=>rfl,fun _=>rfl,trivial⟩,?_⟩
        · simp only [eta,BB]
        have e1:endsS d sig 1=endS d sig 0:=by rw [← hstp];rfl
        simp (config:={ maxSteps:=1000000 }) only [reduceCtorEq,Nat.reduceEqDiff,Nat.reduceAdd,Nat.reduceSub,Int.reduceLE,Int.reduceAdd,Int.reduceNeg,↓reduceIte,BC,↓PC]
        exact ⟨1,⟨[(0,0),(1,0),(2,0),(3,0),(5,0)],by simp only [joinM,joinB,e1,rI,Nat.reduceAdd,Nat.reduceSub,Nat.reduceEqDiff,Nat.reduceLT,Nat.reduceLeDiff,↓reduceIte,reduceCtorEq,BC],by simp [Nat.reduceAdd,Nat.reduceEqDiff,Nat.reduceLT,Nat.reduceLeDiff,↓reduceIte,reduceCtorEq,BC]⟩,by omega,by omega⟩
      | succ k=>
        simp only [joinM,joinB]
        simp (config:={ maxSteps:=1000000 }) only [c1,reduceCtorEq,Nat.reduceEqDiff,↓reduceIte,BC,↓PC]
        refine call79 (k:=k+1) hs h35 rfl rfl rfl (by decide) ?_
        simp (config:={ maxSteps:=1000000 }) only [le,reduceCtorEq,Nat.reduceEqDiff,Nat.reduceAdd,Int.reduceToNat,Int.reduceLE,↓reduceIte,upd,splice,BC,↓PC]
        have f91:=f91b (tS:=tH2) (endsS d sig (k+1)) (endS d sig (k+1)) (by omega) (some 16)
        rw [hel,hlk,hstp] at f91
        refine ⟨[(3,0),(4,0),(5,0)],_,_,_,_,4,f91,rfl,⟨⟨_,rfl,rfl,rfl,rfl⟩,⟨_,rfl,rfl,rfl,(ren_bytes _ _).symm⟩,⟨_,rfl,Nat.le_of_eq (Nat.zero_add _),?_⟩,trivial⟩,
          ⟨by intro x hx;simp at hx;rcases hx with rfl | rfl <;> (intro _;simp [eta]),⟨by intro x hx;simp at hx;subst hx;intro _;simp [eta],⟨by simp,trivial⟩⟩⟩,⟨by decide,by decide,by decide,trivial⟩,by intro x hx;simp at hx;rcases hx with rfl | rfl | rfl <;> decide,⟨fun _=>rfl,fun _=>rfl,trivial⟩,?_⟩
        · simp only [eta,BB]
        simp (config:={ maxSteps:=1000000 }) only [v4,reduceCtorEq,Nat.reduceEqDiff,Nat.reduceAdd,Nat.reduceSub,↓reduceIte,BC,↓PC]
        exact ⟨k+1+1,⟨[(0,0),(1,0),(2,0),(3,0),(6,0)],by simp only [joinM,joinB,rI,Nat.reduceAdd,Nat.reduceSub,Nat.reduceEqDiff,Nat.reduceLT,Nat.reduceLeDiff,↓reduceIte,reduceCtorEq,BC] <;> rfl,by simp [Nat.reduceAdd,Nat.reduceEqDiff,Nat.reduceLT,Nat.reduceLeDiff,↓reduceIte,reduceCtorEq,BC]⟩,by omega,by omega⟩
    · obtain rfl:k=35:=by omega
      simp only [joinM,joinB]
      simp (config:={ maxSteps:=1000000 }) only [reduceCtorEq,Nat.reduceEqDiff,Nat.reduceAdd,Nat.reduceMul,Int.reduceLT,↓reduceIte,BC,↓PC]
      have hl:=endsS_len (d:=d) hs (Nat.le_refl 35)
      have f9:=f92 (tS:=tH2) (endsS d sig 35) (by omega) (by omega)
      rw [hl] at f9
      refine ⟨[(3,0),(4,0)],_,_,_,_,2,f9,rfl,⟨⟨_,rfl,rfl,rfl,rfl⟩,⟨_,rfl,rfl,rfl,(ren_bytes _ _).symm⟩,trivial⟩,
        ⟨by intro x hx;simp at hx;subst hx;intro _;simp [eta],⟨by simp,trivial⟩⟩,⟨by decide,by decide,trivial⟩,by intro x hx;simp at hx;rcases hx with rfl | rfl <;> decide,trivial,?_⟩
      simp (config:={ maxSteps:=1000000 }) only [reduceCtorEq,Nat.reduceEqDiff,Nat.reduceAdd,Nat.reduceSub,↓reduceIte,BC,↓PC]
      exact ⟨[(0,0),(1,0),(2,0)],rfl,by simp [compat,apartM,keysBelow,eta,idHs,rd,SV.ren,SV.renL,Nat.reduceAdd,Nat.reduceLT,Nat.reduceLeDiff,↓reduceIte,Kind.isOwn,exists_eq_left',ne_eq,implies_true,forall_const,forall_eq,BB]⟩
def recS (d sig:List UInt8):List UInt8:=ofS 5 [endsS d sig 35]
def tabRc:List (FuncId × GS):=[(126,gDigs),(131,gOf)]
theorem tabRc_ok:∀ x ∈ tabRc,FunS Tryz.prog tH2 x.1 x.2:=by
  intro x hx
  simp only [tabRc,List.mem_cons,List.not_mem_nil,or_false] at hx
  rcases hx with rfl | rfl
  · exact gDigs_ok
  · exact gOf_ok.more tHH
theorem okT_1' {tag:Int} {s:List UInt8} (hs:s.length≤2 ^ 36):okT tag [s]:=by
  refine ⟨fun p hp=>?_,?_,by simp⟩
  · simp only [List.mem_singleton] at hp
    subst hp
    omega
  · have:=encI_len (s.length:Int)
    simp [ofM,encS]
    omega
theorem gOf_eq1 {tag:Int} {s:List UInt8} (hs:s.length≤2 ^ 36):gOf [.int .i64 tag,.slc 0 0 1 1 none] [(0,⟨.view,[.str s]⟩)]=some (.agg (bys (ofS tag [s])),[],1):=by
  unfold gOf
  simp only
  rw [show [SV.str s]=strs [s] from rfl,unStr_strs]
  simp only [capB,List.length_cons,List.length_nil]
  rw [if_pos ⟨trivial,okT_1' hs⟩]
theorem gOfR_eq1 {tag:Int} {s:List UInt8} (hs:s.length≤2 ^ 36):gOfR [.int .i64 tag,.slc 0 0 1 1 none] [(0,⟨.view,[.str s]⟩)]=some (.agg (bys (ofS tag [s])),[],1):=by
  unfold gOfR
  simp only
  rw [show [SV.str s]=strs [s] from rfl,unStr_strs]
  simp only [capB,List.length_cons,List.length_nil]
  rw [if_pos ⟨trivial,okT_1' hs⟩]
theorem gDigs_eq {d:List UInt8} (hd:d.length=16):gDigs [.agg (bys d)] []=some (.slc 0 0 1 35 (some 35),[(0,⟨.own 157,ints (digS d)⟩)],1):=by
  unfold gDigs
  simp only [unB_bytes]
  rw [if_pos hd]
def cRc:CallT:=callAnd 127 (callT Tryz.prog tH2) (callS tabRc cF)
theorem cRc_ok:∀ f a m n K,cRc f a m n K→callT Tryz.prog tH2 f a m n K:=callAnd_ok (callS_ok tabRc_ok cF_ok)
def zero16:List UInt8:=List.replicate 16 0
set_option maxHeartbeats 4000000 in
theorem f62 (d sig:List UInt8) (hd:d.length=16) (hs:sig.length=560):Fun Tryz.prog tH2 101 [.agg (bys d),.str sig] [] 0 (.tup [.agg (bys (recS d sig)),.int .i64 0]) [] 0:=by
  refine fun_pureG none cRc cRc_ok ck101 (Nat.le_of_ble_eq_true rfl) (fun η=>by simp only [SV.ren,SV.renL,ren_bytes]) ?_
  conv in mkSF _ _=>(reduce;simp only [u8lit,UInt8.reduceOfNat,Int.reduceOfNat,Int.reduceNegSucc])
  rw [exG_mk]
  have hl:(bys d).length=16:=by rw [len_bytes,hd]
  have gd:=gDigs_eq hd
  have tb:List.take 16 (bys d)=bys d:=List.take_of_length_le (by omega)
  have e560:((sig.length:Int) != 560)=false:=by rw [hs];rfl
  simp (config:={ maxSteps:=1000000 }) only [cRc,tabRc,↓gd,hl,tb,e560,reduceCtorEq,Nat.reduceEqDiff,Nat.reduceAdd,↓reduceIte,upd,splice,BC,↓PC]
  refine ⟨[(1,0),(4,0),(3,0)],_,_,_,_,3,f78 d sig hs,rfl,⟨⟨_,rfl,rfl,rfl,rfl⟩,⟨_,rfl,rfl,rfl,rfl⟩,⟨_,rfl,Nat.le_of_eq (Nat.zero_add _),?_⟩,trivial⟩,
    ⟨by intro x hx;simp at hx;rcases hx with rfl | rfl <;> (intro _;simp [eta]),⟨by intro x hx;simp at hx;subst hx;intro _;simp [eta],⟨by simp,trivial⟩⟩⟩,⟨by decide,by decide,by decide,trivial⟩,
    by intro x hx;simp at hx;rcases hx with rfl | rfl | rfl <;> decide,⟨fun _=>rfl,fun _=>rfl,trivial⟩,?_⟩
  · simp only [eta,BB]
  have hl5:=endsS_len (d:=d) hs (Nat.le_refl 35)
  have go:=gOf_eq1 (tag:=5) (s:=endsS d sig 35) (by omega)
  have hO:=ofS_len 5 [endsS d sig 35]
  unfold recS
  generalize ofS 5 [endsS d sig 35]=O at *
  have lO:(bys O).length=16:=by rw [len_bytes,hO]
  have tO:List.take 16 (bys O)=bys O:=List.take_of_length_le (by omega)
  simp (config:={ maxSteps:=1000000 }) only [↓go,lO,tO,reduceCtorEq,Nat.reduceEqDiff,Nat.reduceAdd,Nat.reduceSub,Nat.reduceLT,↓reduceIte,upd,splice,BC,↓PC]
theorem f62e (d sig:List UInt8) (hd:d.length=16) (hs:sig.length≠560):Fun Tryz.prog tH2 101 [.agg (bys d),.str sig] [] 0 (.tup [.agg (bys zero16),.int .i64 1]) [] 0:=by
  refine fun_pureG none cRc cRc_ok ck101 (Nat.le_of_ble_eq_true rfl) (fun η=>by simp only [SV.ren,SV.renL,ren_bytes]) ?_
  conv in mkSF _ _=>(reduce;simp only [u8lit,UInt8.reduceOfNat,Int.reduceOfNat,Int.reduceNegSucc])
  rw [exG_mk]
  have e560:((sig.length:Int) != 560)=true:=by simp;omega
  simp (config:={ maxSteps:=1000000 }) only [cRc,tabRc,e560,reduceCtorEq,Nat.reduceEqDiff,Nat.reduceAdd,↓reduceIte,upd,splice,BC,↓PC]
  rfl
end Go.Proofs.YtmhkkalbijbplaaGreatDoor

/- One-time signatures: the reference's public key for which a signature is valid. -/
namespace Go.Proofs.YtmhkkalbijbplaaGreatDoor
open Go Go.Sx
set_option maxRecDepth 100000
set_option linter.unusedVariables false
variable {tS:List (Nat × List SV)}
theorem cpC_len' {X:List UInt8} {i:Nat} (hX:16≤X.length) (h:i≤16):(cpC X i).length=16:=by simp [cpC,len_bytes];omega
set_option maxHeartbeats 4000000 in
theorem f102 (s:List UInt8) (hs:16≤s.length):Fun Tryz.prog tS 158 [.str s] [] 0 (.agg (bys (s.take 16))) [] 0:=by
  refine fun_pureG none cF cF_ok ck158 (Nat.le_of_ble_eq_true rfl) (fun η=>by simp only [SV.ren,ren_bytes]) ?_
  conv in mkSF _ _=>(reduce;simp only [u8lit,UInt8.reduceOfNat,Int.reduceOfNat,Int.reduceNegSucc])
  rw [exG_mk]
  simp (config:={ maxSteps:=1000000 }) only [reduceCtorEq,Nat.reduceEqDiff,Nat.reduceAdd,↓reduceIte,BC,↓PC]
  rw [den_loop]
  have rz:∀ η,SV.renL η z16=z16:=fun η=>SV.flatL_ren η z16 rfl
  have rC:∀ η i,SV.renL η (cpC s i)=cpC s i:=fun η i=>cpC_ren η s i
  refine den_inv cF_ok (σ:=Nat) (fun i=>[(4,.int .i64 (i:Int)),(3,.ptr 1 0),(2,.ptr 0 0),(0,.str s)]) (fun i=>[(1,⟨.own 24,cpC s i⟩),(0,⟨.own 24,z16⟩)]) (fun _=>2)
    (fun i=>i≤16) (fun i=>16 - i) 0 ?_ (Nat.zero_le _) ?_
  · exact ⟨[(0,0),(1,0)],by simp only [rC,rz,Nat.reduceAdd,Nat.reduceSub,Nat.reduceLT,Nat.reduceLeDiff,↓reduceIte,BC] <;> exact ⟨rfl,rfl⟩,by simp [Nat.reduceAdd,Nat.reduceEqDiff,Nat.reduceLeDiff,↓reduceIte,reduceCtorEq,BC]⟩
  · intro i hi
    have lC:=cpC_len' hs hi
    by_cases h16:i < 16
    · obtain ⟨x,hx⟩:∃ x,s[i]?=some x:=⟨s[i]'(by omega),by rw [List.getElem?_eq_getElem]⟩
      have c1:(i:Int) < 16:=by omega
      have c2:(0:Int)≤(i:Int):=by omega
      have v4:IntKind.i64.wrap ((i:Int)+1)=((i+1:Nat):Int):=by rw [wrap64_eq (by omega) (by omega)];omega
      have op:=cpC_put hx h16
      simp (config:={ maxSteps:=1000000 }) only [c1,c2,hx,v4,lC,op,SV.byte,reduceCtorEq,Nat.reduceEqDiff,Nat.reduceLeDiff,↓reduceIte,upd,BC,↓PC]
      exact ⟨by omega,i+1,⟨[(0,0),(1,0)],by simp only [rC,rz,Nat.reduceAdd,Nat.reduceSub,Nat.reduceLT,Nat.reduceLeDiff,↓reduceIte,BC],by simp [Nat.reduceAdd,Nat.reduceEqDiff,Nat.reduceLeDiff,↓reduceIte,reduceCtorEq,BC]⟩,by omega,by omega⟩
    · obtain rfl:i=16:=by omega
      simp (config:={ maxSteps:=1000000 }) only [lC,reduceCtorEq,Nat.reduceEqDiff,Int.reduceLT,↓reduceIte,upd,BC,↓PC]
      have tC:List.take 16 (cpC s 16)=cpC s 16:=List.take_of_length_le (by omega)
      have sC:splice z16 0 (cpC s 16)=cpC s 16:=splice_all (by rw [lC];rfl)
      rw [tC,sC,tC]
      exact ⟨lC,by decide,by omega,cpC_all⟩
def gDigR:List SV→Option SV
  | [.str s]=>if 16≤s.length then some (.agg (bys (s.take 16))) else none
  | _=>none
theorem gDigR_eq {s:List UInt8} (h:16≤s.length):gDigR [.str s]=some (.agg (bys (s.take 16))):=if_pos h
def tabEn3:Tab:=⟨[(133,gAdv),(158,gDigR)],[]⟩
theorem tabEn3_ok:TabX Tryz.prog tH2 tabEn3:=by
  refine ⟨fun x h args r hr=>?_,fun x h=>by simp [tabEn3] at h⟩
  simp only [tabEn3,List.mem_cons,List.not_mem_nil,or_false] at h
  rcases h with rfl | rfl
  · exact tabA101.p (133,gAdv) (by simp) args r hr
  · simp only at hr
    unfold gDigR at hr
    split at hr
    · split at hr
      · rename_i hc
        cases hr
        exact ⟨f102 _ hc,fun η=>by simp only [SV.renL,SV.ren],fun η=>by simp only [SV.renL,SV.ren,ren_bytes]⟩
      · cases hr
    · cases hr
theorem gDigsR_eq {d:List UInt8} (hd:d.length=16):gDigsR [.agg (bys d)] []=some (.slc 0 0 1 35 none,[(0,⟨.own 3,ints (digS d)⟩)],1):=by
  unfold gDigsR
  simp only [unB_bytes]
  rw [if_pos hd]
theorem gText_eq {d:List UInt8} (hd:d.length=16):gText [.agg (bys d)] []=some (.str d,[],0):=by
  unfold gText
  simp only [unB_bytes]
  rw [if_pos hd]
def tabEs:List (FuncId × GS):=[(132,gDigsR),(47,gText)]
theorem tabEs_ok:∀ x ∈ tabEs,FunS Tryz.prog tH2 x.1 x.2:=by
  intro x hx
  simp only [tabEs,List.mem_cons,List.not_mem_nil,or_false] at hx
  rcases hx with rfl | rfl
  · exact gDigsR_ok
  · exact gText_ok
def cEs:CallT:=callS tabEs (callX tabEn3)
theorem cEs_ok:∀ f a m n K,cEs f a m n K→callT Tryz.prog tH2 f a m n K:=callS_ok tabEs_ok (callX_ok tabEn3_ok)
set_option maxHeartbeats 4000000 in
theorem f83 (d sig:List UInt8) (hd:d.length=16) (hs:sig.length=560):Fun Tryz.prog tH2 141 [.agg (bys d),.str sig] [] 0 (.str (endsS d sig 35)) [] 0:=by
  refine fun_pureG none cEs cEs_ok ck141 (Nat.le_of_ble_eq_true rfl) (fun η=>rfl) ?_
  conv in mkSF _ _=>(reduce;simp only [u8lit,UInt8.reduceOfNat,Int.reduceOfNat,Int.reduceNegSucc])
  rw [exG_mk]
  have hl:(bys d).length=16:=by rw [len_bytes,hd]
  have gd:=gDigsR_eq hd
  have tb:List.take 16 (bys d)=bys d:=List.take_of_length_le (by omega)
  simp (config:={ maxSteps:=1000000 }) only [cEs,tabEs,tabEn3,↓gd,hl,tb,reduceCtorEq,Nat.reduceEqDiff,Nat.reduceAdd,↓reduceIte,BC,↓PC]
  rw [den_loop]
  have rI:∀ η,SV.renL η (ints (digS d))=ints (digS d):=fun η=>ren_ints η _
  have dl:=digS_len d
  refine den_inv cEs_ok (σ:=Nat) (fun k=>[(7,.int .i64 (k:Int)),(6,.str (endsS d sig k)),(5,.slc 1 0 1 35 none),(1,.str sig)]) (fun _=>[(1,⟨.own 3,ints (digS d)⟩)]) (fun _=>2)
    (fun k=>k≤35) (fun k=>35 - k) 0 ?_ (Nat.zero_le _) ?_
  · exact ⟨[(0,0),(1,0)],by simp only [rI,Nat.reduceAdd,Nat.reduceSub,Nat.reduceLT,Nat.reduceLeDiff,↓reduceIte,BC],by simp [endsS,Nat.reduceAdd,Nat.reduceEqDiff,Nat.reduceLeDiff,↓reduceIte,BC]⟩
  · intro k hk
    by_cases h35:k < 35
    · obtain ⟨ht,hg⟩:=digT_get d h35
      have gg:=get_ints hg
      have hp:=partS_len hs h35
      have c1:(k:Int) < 35:=by omega
      have c2:(0:Int)≤(k:Int):=by omega
      have v4:IntKind.i64.wrap ((k:Int)+1)=((k+1:Nat):Int):=by rw [wrap64_eq (by omega) (by omega)];omega
      have w1:IntKind.i64.wrap (16 * (k:Int))=((16 * k:Nat):Int):=by rw [wrap64_eq (by omega) (by omega)];omega
      have b1:(0:Int)≤((16 * k:Nat):Int):=by omega
      have b2:((16 * k:Nat):Int)≤(sig.length:Int):=by omega
      have gr:=gDigR_eq (s:=List.take (sig.length - 16 * k) (List.drop (16 * k) sig)) (by simp;omega)
      have ps:List.take 16 (List.take (sig.length - 16 * k) (List.drop (16 * k) sig))=partS sig k:=by
        unfold partS
        rw [List.take_take,Nat.min_eq_left (by omega)]
      rw [ps] at gr
      have ga:=gAdv_eq (k:=k) (h:=digT d k) (v:=partS sig k) (by omega) ht hp
      have ee:advS k (15 - digT d k) (digT d k) (partS sig k)=endS d sig k:=rfl
      rw [ee] at ga
      have hel:=endS_len (d:=d) hs h35
      have gt:=gText_eq hel
      have hst:=endsS_step d sig k
      have fp:=flat_bytes (partS sig k)
      have fe:=flat_bytes (endS d sig k)
      simp (config:={ maxSteps:=1000000 }) only [↓gr,↓ga,↓gt,gg,dl,c1,c2,v4,w1,b1,b2,fp,fe,hst,Nat.reduceEqDiff,↓reduceIte,evA,BC,↓PC]
      have hlk:=endsS_len (d:=d) hs hk
      exact ⟨h35,by omega,by unfold maxStr;omega,k+1,⟨[(0,0),(1,0)],by simp only [rI,Nat.reduceAdd,Nat.reduceSub,Nat.reduceLT,Nat.reduceLeDiff,↓reduceIte,BC],by simp [Nat.reduceAdd,Nat.reduceEqDiff,Nat.reduceLeDiff,↓reduceIte,BC]⟩,by omega,by omega⟩
    · obtain rfl:k=35:=by omega
      simp (config:={ maxSteps:=1000000 }) only [Nat.reduceEqDiff,Int.reduceLT,↓reduceIte,BC,↓PC]
def gEnds:List SV→Option SV
  | [.agg cells,.str sig]=>match unB cells with
    | some d=>if d.length=16∧sig.length=560 then some (.str (endsS d sig 35)) else none
    | none=>none
  | _=>none
theorem gEnds_eq {d sig:List UInt8} (hd:d.length=16) (hs:sig.length=560):gEnds [.agg (bys d),.str sig]=some (.str (endsS d sig 35)):=by
  unfold gEnds
  simp only [unB_bytes]
  rw [if_pos ⟨hd,hs⟩]
def tabEe:Tab:=⟨[(141,gEnds)],[]⟩
theorem tabEe_ok:TabX Tryz.prog tH2 tabEe:=by
  refine ⟨fun x h args r hr=>?_,fun x h=>by simp [tabEe] at h⟩
  simp only [tabEe,List.mem_singleton] at h
  subst h
  simp only at hr
  unfold gEnds at hr
  split at hr
  · split at hr
    · rename_i d hd
      split at hr
      · rename_i hc
        cases hr
        rw [unB_some hd]
        exact ⟨f83 d _ hc.1 hc.2,fun η=>by simp only [SV.renL,SV.ren,ren_bytes],fun η=>by simp only [SV.renL,SV.ren]⟩
      · cases hr
    · cases hr
  · cases hr
def tabRr:List (FuncId × GS):=[(76,gOfR)]
theorem tabRr_ok:∀ x ∈ tabRr,FunS Tryz.prog tH2 x.1 x.2:=by
  intro x hx
  simp only [tabRr,List.mem_cons,List.not_mem_nil,or_false] at hx
  subst hx
  exact gOfR_ok
def cRr:CallT:=callS tabRr (callX tabEe)
theorem cRr_ok:∀ f a m n K,cRr f a m n K→callT Tryz.prog tH2 f a m n K:=callS_ok tabRr_ok (callX_ok tabEe_ok)
theorem f66 (d sig:List UInt8) (hd:d.length=16) (hs:sig.length=560):Fun Tryz.prog tH2 105 [.agg (bys d),.str sig] [] 0 (.tup [.agg (bys (recS d sig)),.int .i64 0]) [] 0:=by
  refine fun_pureG none cRr cRr_ok ck105 (Nat.le_of_ble_eq_true rfl) (fun η=>by simp only [SV.ren,SV.renL,ren_bytes]) ?_
  conv in mkSF _ _=>(reduce;simp only [u8lit,UInt8.reduceOfNat,Int.reduceOfNat,Int.reduceNegSucc])
  rw [exG_mk]
  have hl:(bys d).length=16:=by rw [len_bytes,hd]
  have ge:=gEnds_eq hd hs
  have tb:List.take 16 (bys d)=bys d:=List.take_of_length_le (by omega)
  have e560:((sig.length:Int) != 560)=false:=by rw [hs];rfl
  have hl5:=endsS_len (d:=d) hs (Nat.le_refl 35)
  have go:=gOfR_eq1 (tag:=5) (s:=endsS d sig 35) (by omega)
  have hO:=ofS_len 5 [endsS d sig 35]
  unfold recS
  generalize ofS 5 [endsS d sig 35]=O at *
  have lO:(bys O).length=16:=by rw [len_bytes,hO]
  have tO:List.take 16 (bys O)=bys O:=List.take_of_length_le (by omega)
  simp (config:={ maxSteps:=1000000 }) only [cRr,tabRr,tabEe,↓ge,↓go,hl,tb,e560,lO,tO,reduceCtorEq,Nat.reduceEqDiff,Nat.reduceAdd,Nat.reduceSub,Nat.reduceLT,↓reduceIte,upd,splice,BC,↓PC]
theorem f66e (d sig:List UInt8) (hd:d.length=16) (hs:sig.length≠560):Fun Tryz.prog tH2 105 [.agg (bys d),.str sig] [] 0 (.tup [.agg (bys zero16),.int .i64 1]) [] 0:=by
  refine fun_pureG none cRr cRr_ok ck105 (Nat.le_of_ble_eq_true rfl) (fun η=>by simp only [SV.ren,SV.renL,ren_bytes]) ?_
  conv in mkSF _ _=>(reduce;simp only [u8lit,UInt8.reduceOfNat,Int.reduceOfNat,Int.reduceNegSucc])
  rw [exG_mk]
  have e560:((sig.length:Int) != 560)=true:=by simp;omega
  simp (config:={ maxSteps:=1000000 }) only [cRr,tabRr,tabEe,e560,reduceCtorEq,Nat.reduceEqDiff,Nat.reduceAdd,↓reduceIte,upd,splice,BC,↓PC]
  rfl
def gRec:List SV→Option SV
  | [.agg cells,.str sig]=>match unB cells with
    | some d=>if d.length=16 then (match decide (sig.length=560) with
      | true=>some (.tup [.agg (bys (recS d sig)),.int .i64 0])
      | false=>some (.tup [.agg (bys zero16),.int .i64 1])) else none
    | none=>none
  | _=>none
theorem gRec_yes {d sig:List UInt8} (hd:d.length=16) (hs:sig.length=560):gRec [.agg (bys d),.str sig]=some (.tup [.agg (bys (recS d sig)),.int .i64 0]):=by
  unfold gRec
  simp only [unB_bytes]
  rw [if_pos hd,decide_eq_true hs]
theorem gRec_no {d sig:List UInt8} (hd:d.length=16) (hs:sig.length≠560):gRec [.agg (bys d),.str sig]=some (.tup [.agg (bys zero16),.int .i64 1]):=by
  unfold gRec
  simp only [unB_bytes]
  rw [if_pos hd,decide_eq_false hs]
theorem gRec_of {f:FuncId} (H1:∀ d sig:List UInt8,d.length=16→sig.length=560→Fun Tryz.prog tH2 f [.agg (bys d),.str sig] [] 0 (.tup [.agg (bys (recS d sig)),.int .i64 0]) [] 0)
    (H2:∀ d sig:List UInt8,d.length=16→sig.length≠560→Fun Tryz.prog tH2 f [.agg (bys d),.str sig] [] 0 (.tup [.agg (bys zero16),.int .i64 1]) [] 0) :
    ∀ args r,gRec args=some r→Fun Tryz.prog tH2 f args [] 0 r [] 0∧(∀ η,SV.renL η args=args)∧∀ η,r.ren η=r:=by
  intro args r hr
  unfold gRec at hr
  split at hr
  · split at hr
    · rename_i d hd
      split at hr
      · rename_i hc
        rw [unB_some hd]
        split at hr
        · rename_i h;cases hr;exact ⟨H1 d _ hc (of_decide_eq_true h),fun η=>by simp only [SV.renL,SV.ren,ren_bytes],fun η=>by simp only [SV.renL,SV.ren,ren_bytes]⟩
        · rename_i h;cases hr;exact ⟨H2 d _ hc (of_decide_eq_false h),fun η=>by simp only [SV.renL,SV.ren,ren_bytes],fun η=>by simp only [SV.renL,SV.ren,ren_bytes]⟩
      · cases hr
    · cases hr
  · cases hr
theorem gRec62:∀ args r,gRec args=some r→Fun Tryz.prog tH2 101 args [] 0 r [] 0∧(∀ η,SV.renL η args=args)∧∀ η,r.ren η=r:=gRec_of f62 f62e
theorem gRec66:∀ args r,gRec args=some r→Fun Tryz.prog tH2 105 args [] 0 r [] 0∧(∀ η,SV.renL η args=args)∧∀ η,r.ren η=r:=gRec_of f66 f66e
end Go.Proofs.YtmhkkalbijbplaaGreatDoor

/- What is signed for a message. -/
namespace Go.Proofs.YtmhkkalbijbplaaGreatDoor
open Go Go.Sx
set_option maxRecDepth 100000
set_option linter.unusedVariables false
theorem take16 {d:List UInt8} (hd:d.length=16):List.take 16 (bys d)=bys d:=List.take_of_length_le (by rw [len_bytes];omega)
def cDi:CallT:=callS tabAv cF
theorem cDi_ok:∀ f a m n K,cDi f a m n K→callT Tryz.prog tH2 f a m n K:=callS_ok tabAv_ok cF_ok
set_option maxHeartbeats 4000000 in
theorem f63 (p msg:List UInt8) (i:Int) (hp:p.length=16) (hm:msg.length≤2 ^ 30):Fun Tryz.prog tH2 89 [.agg (bys p),.int .i64 i,.str msg] [] 0 (.agg (bys (ofS 6 [p,encI i,msg]))) [] 0:=by
  refine fun_pureG none cDi cDi_ok ck89 (Nat.le_of_ble_eq_true rfl) (fun η=>by simp only [SV.ren,ren_bytes]) ?_
  conv in mkSF _ _=>(reduce;simp only [u8lit,UInt8.reduceOfNat,Int.reduceOfNat,Int.reduceNegSucc])
  rw [exG_mk]
  have hl:(bys p).length=16:=by rw [len_bytes,hp]
  have tp:=take16 hp
  have e2:=encI_len i
  have go:=gOf_eq3 (tag:=6) (a:=p) (b:=encI i) (c:=msg) (by omega) (by omega) (by omega)
  have au1:=all_isU8 (encI i)
  have mb1:=map_byteOf (encI i)
  have tb1:=take_bytes (encI i)
  have au2:=all_isU8 p
  have mb2:=map_byteOf p
  have hO:=ofS_len 6 [p,encI i,msg]
  generalize ofS 6 [p,encI i,msg]=O at *
  have lO:(bys O).length=16:=by rw [len_bytes,hO]
  have tO:=take16 hO
  simp (config:={ maxSteps:=1000000 }) only [cDi,tabAv,gInt,↓go,hl,tp,au1,mb1,tb1,au2,mb2,lO,tO,reduceCtorEq,Nat.reduceEqDiff,Nat.reduceAdd,Nat.reduceLeDiff,Nat.reduceLT,Int.reduceToNat,Int.reduceLE,↓reduceIte,evA,upd,splice,BC,↓PC]
set_option maxHeartbeats 4000000 in
theorem f67 (p msg:List UInt8) (i:Int) (hp:p.length=16) (hm:msg.length≤2 ^ 30) (hi:R64 i):Fun Tryz.prog tH2 94 [.agg (bys p),.int .i64 i,.str msg] [] 0 (.agg (bys (ofS 6 [p,encI i,msg]))) [] 0:=by
  refine fun_pureG none cAr cAr_ok ck94 (Nat.le_of_ble_eq_true rfl) (fun η=>by simp only [SV.ren,ren_bytes]) ?_
  conv in mkSF _ _=>(reduce;simp only [u8lit,UInt8.reduceOfNat,Int.reduceOfNat,Int.reduceNegSucc])
  rw [exG_mk]
  have hl:(bys p).length=16:=by rw [len_bytes,hp]
  have tp:=take16 hp
  have e2:=encI_len i
  have go:=gOfR_eq3 (tag:=6) (a:=p) (b:=encI i) (c:=msg) (by omega) (by omega) (by omega)
  have gi:=gIntR_eq hi
  have au1:=all_isU8 (encI i)
  have mb1:=map_byteOf (encI i)
  have tb1:=take_bytes (encI i)
  have hO:=ofS_len 6 [p,encI i,msg]
  generalize ofS 6 [p,encI i,msg]=O at *
  have lO:(bys O).length=16:=by rw [len_bytes,hO]
  have tO:=take16 hO
  simp (config:={ maxSteps:=1000000 }) only [cAr,tabAr,gText,unB_bytes,hp,↓gi,↓go,hl,tp,au1,mb1,tb1,lO,tO,reduceCtorEq,Nat.reduceEqDiff,Nat.reduceAdd,Nat.reduceSub,Nat.reduceLeDiff,Nat.reduceLT,↓reduceIte,upd,splice,BC,↓PC]
end Go.Proofs.YtmhkkalbijbplaaGreatDoor

/- The reference's derivation of keys. -/
namespace Go.Proofs.YtmhkkalbijbplaaGreatDoor
open Go Go.Sx
set_option maxRecDepth 100000
set_option linter.unusedVariables false
variable {tS:List (Nat × List SV)}
def inpS (label p:List UInt8):List UInt8:=encS label++encS p
def derS (key label p:List UInt8):List UInt8:=macS key (inpS label p)
theorem derS_len (key label p:List UInt8):(derS key label p).length=32:=macS_len _ _
theorem inpS_len {label p:List UInt8} (h1:label.length≤2 ^ 20) (h2:p.length≤2 ^ 20):(inpS label p).length≤2 ^ 30:=by
  have e1:=encI_len (label.length:Int)
  have e2:=encI_len (p.length:Int)
  simp only [inpS,encS,List.length_append];omega
def leafS (seed:List UInt8) (i:Int):List UInt8:=derS seed [108,101,97,102] (encI i)
theorem leafS_len (seed:List UInt8) (i:Int):(leafS seed i).length=32:=derS_len _ _ _
def stS (seed:List UInt8) (k:Int):List UInt8:=(derS seed [99,104,97,105,110] (encI k)).take 16
theorem stS_len (seed:List UInt8) (k:Int):(stS seed k).length=16:=by simp [stS,derS_len]
end Go.Proofs.YtmhkkalbijbplaaGreatDoor

/- Keys that are derived: the program's authentication code, and the derivation. -/
namespace Go.Proofs.YtmhkkalbijbplaaGreatDoor
open Go Go.Sx
set_option maxRecDepth 100000
set_option linter.unusedVariables false
variable {tS:List (Nat × List SV)}
def basK (key:List UInt8):List UInt8:=key++List.replicate (64 - key.length) 0
def padR (key:List UInt8) (w:Int) (i:Nat):List UInt8:=padK key w i++(basK key).drop i
theorem basK_len {key:List UInt8} (h:key.length≤64):(basK key).length=64:=by simp [basK];omega
theorem basK_get {key:List UInt8} (h:key.length≤64) {i:Nat} (hi:i < 64):(basK key)[i]?=some (key.getD i 0):=by
  unfold basK
  rw [List.getD_eq_getElem?_getD]
  by_cases hk:i < key.length
  · rw [List.getElem?_append_left hk,List.getElem?_eq_getElem hk];rfl
  · rw [List.getElem?_append_right (by omega),List.getElem?_replicate,if_pos (by omega),List.getElem?_eq_none (by omega)];rfl
theorem padR_len {key:List UInt8} (h:key.length≤64) (w:Int) {i:Nat} (hi:i≤64):(padR key w i).length=64:=by
  simp [padR,padK_len,basK_len h];omega
theorem padR_get {key:List UInt8} (h:key.length≤64) (w:Int) {i:Nat} (hi:i < 64):(padR key w i)[i]?=some (key.getD i 0):=by
  unfold padR
  rw [List.getElem?_append_right (by rw [padK_len];exact Nat.le_refl _),padK_len,Nat.sub_self,List.getElem?_drop,Nat.add_zero,basK_get h hi]
theorem padR_set {key:List UInt8} (h:key.length≤64) (w:Int) {i:Nat} (hi:i < 64):splice (bys (padR key w i)) i [SV.byte (padAt key w i)]=bys (padR key w (i+1)):=by
  unfold splice padR
  have e1:bys (padK key w i++(basK key).drop i)=bys (padK key w i)++bys ((basK key).drop i):=(bytes_app _ _).symm
  rw [e1,List.take_left' (by rw [len_bytes,padK_len]),padK_step]
  have e2:(bys (padK key w i)++bys ((basK key).drop i)).drop (i+1)=bys ((basK key).drop (i+1)):=by
    rw [← List.drop_drop,List.drop_left' (by rw [len_bytes,padK_len])]
    simp [bys,List.map_drop]
  simp only [List.length_cons,List.length_nil,Nat.zero_add]
  rw [e2,bytes_app]
theorem padR_64 {key:List UInt8} (h:key.length≤64) (w:Int):padR key w 64=padK key w 64:=by
  unfold padR
  rw [List.drop_of_length_le (by rw [basK_len h];exact Nat.le_refl _),List.append_nil]
theorem basK_put {key:List UInt8} (h:key.length≤64):splice (List.replicate 64 (.int .u8 0)) 0 (bys key)=bys (basK key):=by
  unfold splice basK
  rw [List.take_zero,List.nil_append,Nat.zero_add,len_bytes,List.drop_replicate,← bytes_app]
  simp [bys,SV.byte]
set_option maxHeartbeats 4000000 in
theorem h149 (key:List UInt8) (w:Int) (hk:key.length≤64):Fun Tryz.prog tS 149 [.int .u8 w,.ptr 0 0] [(0,⟨.view,[.str key]⟩)] 1 (.str (padK key w 64)) [] 1:=by
  refine funV Tryz.f149 (by kernel_rfl) (fun _=>rfl) ?_
  conv in mkSF _ _=>(reduce;simp only [u8lit,UInt8.reduceOfNat,Int.reduceOfNat,Int.reduceNegSucc])
  have hm:min key.length 64=key.length:=Nat.min_eq_left hk
  simp (config:={ maxSteps:=1000000 }) only [hm,NV,↓NP,reduceCtorEq,Nat.reduceEqDiff,Nat.reduceAdd,Int.reduceToNat,Int.reduceLE,↓reduceIte,upd]
  rw [den_loop]
  refine den_inv (fun _ _ _ _ _ h=>h) (σ:=Nat) (fun i=>[(9,.int .i64 (i:Int)),(4,.ptr 1 0),(0,.int .u8 w)]) (fun i=>[(1,⟨.own 147,bys (padR key w i)⟩)]) (fun _=>2) (fun i=>i≤64) (fun i=>64 - i) 0 ?_ (Nat.zero_le _) ?_
  · refine ⟨[(0,0),(1,0)],?_,by simp [NF,Nat.reduceAdd,Nat.reduceEqDiff,Nat.reduceLeDiff,↓reduceIte,reduceCtorEq]⟩
    simp only [NF,Nat.reduceAdd,Nat.reduceSub,Nat.reduceLT,Nat.reduceLeDiff,↓reduceIte]
    exact basK_put hk
  · intro i hi
    have hl:=padR_len hk w hi
    by_cases h:i < 64
    · have c1:(i:Int) < 64:=by omega
      have c2:(0:Int)≤(i:Int):=by omega
      have wi:IntKind.i64.wrap ((i:Int)+1)=((i+1:Nat):Int):=by rw [wrap64_eq (by omega) (by omega)];omega
      have g:=get_bysI (padR_get hk w h)
      have st:=padR_set hk w h
      have e:=padB_sv ((key.getD i 0).toNat:Int) w
      unfold padAt at st
      simp (config:={ maxSteps:=1000000 }) only [c1,c2,wi,g,NV,↓NP,reduceCtorEq,Nat.reduceEqDiff,↓reduceIte,upd]
      rw [e,st]
      exact ⟨by omega,i+1,⟨[(0,0),(1,0)],by simp only [NF,Nat.reduceAdd,Nat.reduceSub,Nat.reduceLT,Nat.reduceLeDiff,↓reduceIte],by simp [NF,Nat.reduceAdd,Nat.reduceEqDiff,Nat.reduceLeDiff,↓reduceIte,reduceCtorEq]⟩,by omega,by omega⟩
    · obtain rfl:i=64:=by omega
      have e:=padK_len key w 64
      have tk:List.take 64 (bys (padK key w 64))=bys (padK key w 64):=List.take_of_length_le (by rw [len_bytes,e];exact Nat.le_refl _)
      simp (config:={ maxSteps:=1000000 }) only [padR_64 hk w,e,tk,NV,↓NP,reduceCtorEq,Nat.reduceEqDiff,Int.reduceToNat,Int.reduceLT,Int.reduceLE,↓reduceIte]
theorem sum_of (m:List UInt8):outS ((hs0.add m).add (padS (hs0.add m).n)).s=sumS m:=by
  unfold sumS valS
  rw [HS.add_app,hs0_n]
set_option maxHeartbeats 4000000 in
theorem h119 (key text:List UInt8) (hk:key.length≤64) (ht:text.length≤2 ^ 30):Fun Tryz.prog tH2 119 [.str key,.str text] [] 0 (.str (macS key text)) [] 0:=by
  refine funV Tryz.f119 (by kernel_rfl) (fun _=>rfl) ?_
  conv in mkSF _ _=>(reduce;simp only [u8lit,UInt8.reduceOfNat,Int.reduceOfNat,Int.reduceNegSucc])
  have c0:¬ (key.length:Int) > 64:=by omega
  have lP:=fun w=>padK_len key w 64
  have hn:∀ m:List UInt8,m.length≤2 ^ 40→(hs0.add m).n < 2 ^ 58:=fun m h=>by rw [hs0_n];omega
  have cat:∀ a b:List UInt8,a.length≤64→b.length≤2 ^ 30→(a++b).length≤2 ^ 40:=fun a b h1 h2=>by rw [List.length_append];omega
  have lS:=sumS_len (padK key 54 64++text)
  simp (config:={ maxSteps:=1000000 }) only [c0,NV,↓NP,reduceCtorEq,Nat.reduceEqDiff,Nat.reduceAdd,↓reduceIte]
  refine callP f52 ?_
  simp (config:={ maxSteps:=1000000 }) only [HS.l_flat,NV,↓NP,Nat.reduceEqDiff,↓reduceIte]
  refine callN [(0,0)] (h149 key 54 hk) ?_
  simp (config:={ maxSteps:=1000000 }) only [HS.l_flat,NV,NJ,↓NP,Nat.reduceEqDiff,Nat.reduceSub,Nat.reduceLT,↓reduceIte]
  refine callP ((f53 hs0 (padK key 54 64) (hs0_len []) (by rw [lP];decide)).more tHH) ?_
  simp (config:={ maxSteps:=1000000 }) only [HS.l_flat,NV,↓NP,Nat.reduceEqDiff,↓reduceIte]
  refine callP ((f53 (hs0.add (padK key 54 64)) text (hs0_len _) (by rw [hs0_n,lP];omega)).more tHH) ?_
  simp (config:={ maxSteps:=1000000 }) only [HS.l_flat,HS.add_app,NV,↓NP,Nat.reduceEqDiff,↓reduceIte]
  refine callP ((f54 (hs0.add (padK key 54 64++text)) (hs0_len _) (hn _ (cat _ _ (by rw [lP];decide) ht))).more tHH) ?_
  simp (config:={ maxSteps:=1000000 }) only [HS.l_flat,sum_of,lS,NV,↓NP,reduceCtorEq,Nat.reduceEqDiff,Nat.reduceAdd,↓reduceIte,upd]
  have lS2:=sumS_len (padK key 92 64++sumS (padK key 54 64++text))
  refine callP f52 ?_
  simp (config:={ maxSteps:=1000000 }) only [HS.l_flat,NV,↓NP,Nat.reduceEqDiff,↓reduceIte]
  refine callN [(0,0)] (h149 key 92 hk) ?_
  simp (config:={ maxSteps:=1000000 }) only [HS.l_flat,NV,NJ,↓NP,reduceCtorEq,Nat.reduceEqDiff,Nat.reduceSub,Nat.reduceLT,↓reduceIte]
  refine callP ((f53 hs0 (padK key 92 64) (hs0_len []) (by rw [lP];decide)).more tHH) ?_
  simp (config:={ maxSteps:=1000000 }) only [HS.l_flat,lS,NV,↓NP,Nat.reduceEqDiff,Int.reduceToNat,Int.reduceLE,↓reduceIte]
  refine callP ((f53 (hs0.add (padK key 92 64)) (sumS (padK key 54 64++text)) (hs0_len _) (by rw [hs0_n,lP,lS];decide)).more tHH) ?_
  simp (config:={ maxSteps:=1000000 }) only [HS.l_flat,HS.add_app,NV,↓NP,Nat.reduceEqDiff,↓reduceIte]
  refine callP ((f54 (hs0.add (padK key 92 64++sumS (padK key 54 64++text))) (hs0_len _) (hn _ (cat _ _ (by rw [lP];decide) (by rw [lS];decide)))).more tHH) ?_
  simp (config:={ maxSteps:=1000000 }) only [HS.l_flat,sum_of,lS2,NV,↓NP,reduceCtorEq,Nat.reduceEqDiff,Nat.reduceAdd,Nat.reduceLeDiff,Int.reduceToNat,Int.reduceLE,↓reduceIte,upd]
  rfl
end Go.Proofs.YtmhkkalbijbplaaGreatDoor

/- Keys that are derived: Derive; the seeds of one-time keys, the starts of chains. -/
namespace Go.Proofs.YtmhkkalbijbplaaGreatDoor
open Go Go.Sx
set_option maxRecDepth 100000
set_option linter.unusedVariables false
theorem encS_le {s:List UInt8} (h:s.length≤2 ^ 20):(encS s).length≤2 ^ 21:=by
  have e1:=encI_len (s.length:Int)
  simp only [encS,List.length_append];omega
set_option maxHeartbeats 4000000 in
theorem h83 (key label p:List UInt8) (hk:key.length≤64) (h1:label.length≤2 ^ 20) (h2:p.length≤2 ^ 20) :
    Fun Tryz.prog tH2 83 [.str key,.str label,.slc 0 0 1 1 none] [(0,⟨.view,[.str p]⟩)] 1 (.str (derS key label p)) [] 1:=by
  refine funV Tryz.f83 (by kernel_rfl) (fun _=>rfl) ?_
  conv in mkSF _ _=>(reduce;simp only [u8lit,UInt8.reduceOfNat,Int.reduceOfNat,Int.reduceNegSucc])
  have l1:=encS_le h1
  have l2:=encS_le h2
  have fm:=h119 key (inpS label p) hk (inpS_len h1 h2)
  unfold derS
  unfold inpS at *
  simp (config:={ maxSteps:=1000000 }) only [reduceCtorEq,Nat.reduceEqDiff,Nat.reduceAdd,eq_self,List.map_cons,List.map_nil,Nat.zero_add,frOf,den_o0,den_o1,kont_app,den_reg,den_seq,↓reduceIte,↓e_mv,↓e_call,Opd.ev,Sx.get,put,putO,del,dels,exV_mk]
  refine callN [] (f33 label (by omega)) ?_
  simp (config:={ maxSteps:=1000000 }) only [and_self,reduceCtorEq,Nat.reduceEqDiff,Nat.reduceAdd,eq_self,Int.cast_ofNat_Int, true_and,imp_self,List.length_nil,List.nil_append,List.cons_append,Nat.add_zero,den_o0,den_o1,kont_app,den_reg,den_seq,den_block,↓reduceIte,↓e_mv,↓e_len,Opd.ev,Sx.get,put,putO,del,dels,belowL,eta,SV.ren,SV.renL,newOwn,targets,rms,Kind.isOwn,ren_bytes,List.getElem?_nil,Option.getD_none,Nat.sub_zero,Int.cast_ofNat_Int,compat,apartM,keysBelow,zeroSh]
  rw [den_loop]
  refine den_unroll (fun _ _ _ _ _ h=>h) (callT_point _ _) 2 ?_
  simp (config:={ maxSteps:=1000000 }) only [reduceCtorEq,Nat.reduceEqDiff,Nat.reduceLT,Int.reduceToNat,Int.reduceLT,Int.reduceLE,eq_self,decide_true,Int.cast_ofNat_Int, true_and,List.getElem?_cons_zero,List.length_cons,List.length_nil,List.map_cons,List.map_nil,Nat.zero_add,Nat.add_zero,den_o0,↓gd_tt,den_o1,kont_app,den_skip,den_reg,den_seq,den_cond,den_block,den_u,↓reduceIte,↓e_load,↓e_idxS,↓e_mv,↓e_bin,↓e_call,↓u_binV,↓binI,Opd.ev,Sx.get,put,putO,del,dels,rd,Nat.mul_one,Int.cast_ofNat_Int]
  refine callN [] (f33 p (by omega)) ?_
  generalize encS label=A at *
  generalize encS p=B at *
  simp (config:={ maxSteps:=1000000 }) only [bytes_app,SV.flatL,SV.flat,Bool.and_self,and_self,reduceCtorEq,Nat.reduceEqDiff,Nat.reduceAdd,Nat.reduceLeDiff,Int.reduceLT,Int.reduceLE,Int.reduceAdd,Int.reduceNeg,wrap64,eq_self,decide_false, true_and,imp_self,List.length_nil,List.nil_append,List.cons_append,List.drop_zero,List.map_cons,List.map_nil,Nat.zero_add,Nat.add_zero,den_o0,↓gd_ft,den_o1,kont_app,den_reg,den_seq,den_cond,den_exit,den_b,den_xb,den_xc,den_xu,den_u,↓reduceIte,↓e_b2s,↓e_app,↓e_mv,↓e_bin,↓e_callpK,↓u_binV,↓u_srcOf,↓u_srcSl,↓binI,Opd.ev,Sx.get,put,putO,del,dels,rd,rm,belowL,eta,SV.ren,SV.renL,newOwn,targets,rms,Kind.isOwn,ren_bytes,List.getElem?_nil,Option.getD_none,Nat.sub_zero,Nat.le_refl,len_bytes,Nat.mul_one,List.length_append,Nat.reducePow,take_bysE,all_isU8,map_byteOf,compat,apartM,keysBelow,zeroSh]
  refine ⟨by omega,callP fm ?_⟩
  simp (config:={ maxSteps:=1000000 }) only [SV.flatL,SV.flat,Bool.and_self,and_self,Nat.reduceEqDiff,eq_self,den_nil,den_o0,den_o1,kont_app,den_ret,finP_r,↓reduceIte,↓e_mv,↓evRes,kontP_app,Opd.ev,Sx.get,put,putO,del,dels,retOf]
theorem zero16_len:zero16.length=16:=rfl
theorem hOf (tag:Int) (ps:List (List UInt8)) (h:okT tag ps):Fun Tryz.prog tH2 131 [.int .i64 tag,.slc 0 0 1 ps.length none] [(0,⟨.view,strs ps⟩)] 1 (.agg (bys (ofS tag ps))) [] 1:=
  (f39 tag ps h.1 (by have:=h.2.1;omega) (by have:=h.2.2;omega) none (fun c h=>by cases h)).more tHH
set_option maxHeartbeats 4000000 in
theorem h129 (k h t:Nat) (v:List UInt8) (hk:k≤34) (hh:h≤t) (h15:t≤15) (hv:v.length=16) :
    Fun Tryz.prog tH2 129 [.int .i64 (k:Int),.int .i64 (h:Int),.int .i64 (t:Int),.agg (bys v)] [] 0 (.agg (bys (advS k (t - h) h v))) [] 0:=by
  refine funV Tryz.f129 (by kernel_rfl) (fun _=>by simp only [SV.ren,ren_bytes]) ?_
  conv in mkSF _ _=>(reduce;simp only [u8lit,UInt8.reduceOfNat,Int.reduceOfNat,Int.reduceNegSucc])
  have e1:=encI_len (k:Int)
  simp (config:={ maxSteps:=1000000 }) only [SV.flatL,SV.flat,Bool.and_self,reduceCtorEq,Nat.reduceEqDiff,Nat.reduceAdd,eq_self, true_and,List.map_cons,List.map_nil,Nat.zero_add,frOf,den_o0,den_o1,kont_app,den_reg,den_seq,↓reduceIte,↓e_box,↓e_mv,↓e_new,↓e_callpK,Opd.ev,Sx.get,put,putO,del,dels,SV.cells?,exV_mk]
  refine callP (f93 (k:Int) 34 (by omega) (by omega)) ?_
  simp (config:={ maxSteps:=1000000 }) only [SV.flatL,SV.flat,Bool.and_self,setv,reduceCtorEq,Nat.reduceEqDiff,eq_self, true_and,List.map_cons,List.map_nil,↓gd_ff,den_o1,kont_app,den_g,setv,Bool.not_true,Bool.not_true,↓reduceIte,↓e_mv,↓e_un,↓e_callpK,kontP_app,Opd.ev,Sx.get,put,putO,del,dels]
  refine callP (f93 (h:Int) 15 (by omega) (by omega)) ?_
  simp (config:={ maxSteps:=1000000 }) only [SV.flatL,SV.flat,Bool.and_self,setv,reduceCtorEq,Nat.reduceEqDiff,eq_self, true_and,List.map_cons,List.map_nil,↓gd_ff,↓gd_ft,den_o1,kont_app,den_g,setv,Bool.not_true,Bool.not_true,↓reduceIte,↓e_mv,↓e_pick,↓e_un,↓e_callpK,kontP_app,Opd.ev,Sx.get,put,putO,del,dels]
  refine callP (f93 (t:Int) 15 (by omega) (by omega)) ?_
  simp (config:={ maxSteps:=1000000 }) only [SV.flatL,SV.flat,Bool.and_self,setv,reduceCtorEq,Nat.reduceEqDiff,eq_self, true_and,List.map_cons,List.map_nil,den_o0,↓gd_ff,↓gd_ft,den_o1,kont_app,den_g,setv,Bool.not_true,den_skip,den_reg,Bool.not_true,den_seq,den_cond,↓reduceIte,↓e_mv,↓e_pick,↓e_un,↓e_call,kontP_app,Opd.ev,Sx.get,put,putO,del,dels]
  refine callN [] (f34 (k:Int)) ?_
  simp (config:={ maxSteps:=1000000 }) only [and_self,Nat.reduceEqDiff,Nat.reduceAdd,eq_self, true_and,imp_self,List.length_nil,List.nil_append,List.cons_append,List.drop_zero,Nat.zero_add,Nat.add_zero,den_o0,den_o1,kont_app,den_reg,den_seq,den_block,↓reduceIte,↓e_b2s,↓e_mv,↓u_srcSl,Opd.ev,Sx.get,put,putO,del,dels,rd,belowL,eta,SV.ren,SV.renL,newOwn,targets,rms,Kind.isOwn,ren_bytes,List.getElem?_nil,Option.getD_none,Nat.sub_zero,Nat.le_refl,len_bytes,Nat.mul_one,take_bysE,all_isU8,map_byteOf,compat,apartM,keysBelow,zeroSh]
  rw [den_loop]
  refine den_inv (fun _ _ _ _ _ h=>h) (σ:=Nat × List UInt8) (fun x=>[(10,.int .i64 (x.1:Int)),(9,.str (encI (k:Int))),(8,.ptr 1 0),(7,.ptr 0 0),(2,.int .i64 (t:Int))]) (fun x=>[(1,⟨.own 24,bys zero16⟩),(0,⟨.own 24,bys x.2⟩)]) (fun _=>2)
    (fun x=>x.1≤t∧x.2.length=16∧advS k (t - x.1) x.1 x.2=advS k (t - h) h v) (fun x=>t - x.1) (h,v) ?_ ⟨hh,hv,rfl⟩ ?_
  · exact ⟨[(0,0),(1,0)],by simp only [EntM,compat,apartM,keysBelow,eta,idHs,rd,Option.getD_some,List.getElem?_cons_zero,List.getElem?_cons_succ,List.length_cons,List.length_nil,Nat.zero_add,Nat.add_zero,Nat.reduceAdd,Nat.reduceSub,Nat.reduceLT,Nat.reduceLeDiff,↓reduceIte,Kind.isOwn,List.take_zero,and_self,and_true,true_and,exists_eq_left',Option.some.injEq,ne_eq,not_false_eq_true,implies_true,List.not_mem_nil,false_imp_iff,Bool.true_or,forall_const,reduceCtorEq,List.mem_cons,or_false,forall_eq,Nat.succ_ne_self,ren_bytes] <;> rfl,by simp [frEnt,geto,eta,SV.ren,Option.getD_some,List.length_cons,List.length_nil,Nat.zero_add,Nat.add_zero,Nat.reduceAdd,Nat.reduceEqDiff,Nat.reduceLeDiff,↓reduceIte,and_self,Nat.succ_ne_self]⟩
  · rintro ⟨j,u⟩ ⟨hj,hu,he⟩
    simp only at hj hu he ⊢
    by_cases hj2:j < t
    · have c1:(j:Int) < (t:Int):=by omega
      have v4:IntKind.i64.wrap ((j:Int)+1)=((j+1:Nat):Int):=by rw [wrap64_eq (by omega) (by omega)];omega
      have e2:=encI_len (j:Int)
      rw [show t - j=(t - (j+1))+1 by omega] at he
      simp only [advS] at he
      have fO:Fun Tryz.prog tH2 131 [.int .i64 4,.slc 0 0 1 3 none] [(0,⟨.view,[.str (encI (k:Int)),.str (encI (j:Int)),.str u]⟩)] 1 _ [] 1:=hOf 4 [encI (k:Int),encI (j:Int),u] (okT_3 (by omega) (by omega) (by omega))
      have hO:=ofS_len 4 [encI (k:Int),encI (j:Int),u]
      generalize ofS 4 [encI (k:Int),encI (j:Int),u]=O at *
      simp (config:={ maxSteps:=1000000 }) only [c1,Nat.reduceEqDiff,eq_self,decide_true, true_and,List.getElem?_cons_zero,List.getElem?_cons_succ,List.nil_append,List.cons_append,List.take_succ_cons,List.take_zero,List.map_cons,List.map_nil,den_o0,↓gd_tt,den_o1,kont_app,den_skip,den_reg,den_regD,den_seq,den_cond,den_block,↓reduceIte,↓e_mv,↓e_bin,↓e_call,↓u_binV,↓binI,evA_n,kontA_app,Opd.ev,Sx.get,put,putO,del,dels,frD,memD,pickD,views,newer,Nat.le_refl]
      refine callN [] (f34 (j:Int)) ?_
      simp (config:={ maxSteps:=1000000 }) only [hu,and_self,reduceCtorEq,Nat.reduceEqDiff,Nat.reduceAdd,Nat.reduceLeDiff,Int.reduceToNat,Int.reduceLE,eq_self,Int.cast_ofNat_Int, true_and,imp_self,List.getElem?_cons_zero,List.getElem?_cons_succ,List.length_cons,List.length_nil,List.append_nil,List.nil_append,List.cons_append,List.take_succ_cons,List.take_zero,List.drop_succ_cons,List.drop_zero,List.reverse_cons,List.reverse_nil,List.map_cons,List.map_nil,Nat.zero_add,Nat.add_zero,den_o1,kont_app,den_A,↓reduceIte,↓e_bslice,↓e_b2s,↓e_slcA,↓e_call,↓u_onOpt0,↓u_srcSl,↓fillE,↓evA_0,evA_n,kontA_app,Opd.ev,Sx.get,put,putO,del,dels,frD,memD,pickD,kills,views,newer,rd,SV.cells?,SV.one,belowL,eta,SV.ren,SV.renL,newOwn,targets,rms,Kind.isOwn,ren_bytes,List.getElem?_nil,Option.getD_none,Nat.sub_zero,Nat.le_refl,len_bytes,Nat.mul_one,Int.cast_ofNat_Int,splice_0n,splice_0c,splice_cs,splice_allE,take_bysE,all_isU8,map_byteOf,compat,apartM,keysBelow,zeroSh]
      refine callN [(3,0)] fO ?_
      simp (config:={ maxSteps:=1000000 }) only [v4,hu,hO,and_self,again_n,reduceCtorEq,Nat.reduceEqDiff,Nat.reduceAdd,Nat.reduceSub,Nat.reduceLT,false_imp_iff,eq_self, true_and,implies_true,List.getElem?_cons_zero,List.length_cons,List.length_nil,List.nil_append,List.take_succ_cons,List.drop_zero,List.take_nil,List.map_cons,List.map_nil,Nat.zero_add,Nat.add_zero,den_nil,den_o0,den_o1,kont_app,den_reg,Bool.false_or,den_b,↓reduceIte,↓e_store,↓e_mv,↓e_bin,↓u_binV,↓binI,Opd.ev,Sx.get,put,putO,del,dels,rd,upd,SV.cells?,belowL,eta,SV.ren,SV.renL,newOwn,targets,rms,Kind.isOwn,ren_bytes,Option.getD_some,Nat.le_refl,len_bytes,splice_allE,compat,apartM,keysBelow,zeroSh,Option.some.injEq,exists_eq_left',List.not_mem_nil,ne_eq]
      exact ⟨(j+1,O),⟨[(0,0),(1,0)],by simp only [EntM,compat,apartM,keysBelow,eta,idHs,rd,Option.getD_some,List.getElem?_cons_zero,List.getElem?_cons_succ,List.length_cons,List.length_nil,Nat.zero_add,Nat.add_zero,Nat.reduceAdd,Nat.reduceSub,Nat.reduceEqDiff,Nat.reduceLT,Nat.reduceLeDiff,↓reduceIte,Kind.isOwn,List.take_zero,and_self,true_and,exists_eq_left',Option.some.injEq,ne_eq,not_false_eq_true,implies_true,List.not_mem_nil,false_imp_iff,Bool.true_or,forall_const,reduceCtorEq,List.mem_cons,or_false,forall_eq,Nat.succ_ne_self,ren_bytes],by simp [frEnt,geto,eta,SV.ren,Option.getD_some,List.length_cons,List.length_nil,Nat.zero_add,Nat.add_zero,Nat.reduceAdd,Nat.reduceEqDiff,Nat.reduceLeDiff,↓reduceIte,and_self,Nat.succ_ne_self]⟩,⟨by simp only;omega,hO,he⟩,by simp only;omega⟩
    · obtain rfl:j=t:=by omega
      have c9:¬ (j:Int) < (j:Int):=by omega
      have e0:u=advS k (j - h) h v:=by simpa [advS] using he
      rw [← e0]
      simp (config:={ maxSteps:=1000000 }) only [c9,hu,zero16_len,and_self,again_x,reduceCtorEq,Nat.reduceEqDiff,eq_self,decide_false,List.drop_zero,List.map_cons,List.map_nil,Nat.zero_add,den_nil,den_o0,↓gd_ft,den_o1,kont_app,den_reg,den_seq,den_cond,den_exit,den_ret,den_xb,den_xc,finP_r,↓reduceIte,↓e_load,↓e_store,↓e_mv,↓e_bin,↓u_binV,↓binI,↓evRes,Opd.ev,Sx.get,put,putO,del,dels,rd,upd,SV.cells?,retOf,Nat.le_refl,len_bytes,splice_allE,take_bysE]
end Go.Proofs.YtmhkkalbijbplaaGreatDoor

/- The reference's one-time signatures. -/
namespace Go.Proofs.YtmhkkalbijbplaaGreatDoor
open Go Go.Sx
set_option maxRecDepth 100000
set_option linter.unusedVariables false
def catS (f:Nat→List UInt8) (n:Nat):List UInt8:=((List.range n).map f).flatten
theorem catS_step (f:Nat→List UInt8) (n:Nat):catS f n++f n=catS f (n+1):=by
  unfold catS
  rw [List.range_succ,List.map_append,List.flatten_append]
  simp
theorem catS_len {f:Nat→List UInt8}:∀ {n:Nat},(∀ k,k < n→(f k).length=16)→(catS f n).length=16 * n
  | 0,_=>rfl
  | n+1,h=>by
    rw [← catS_step,List.length_append,catS_len (fun k hk=>h k (by omega)),h n (by omega)]
    omega
theorem catS_take {f:Nat→List UInt8} {n m:Nat} (h:m≤n) (hf:∀ k,k < n→(f k).length=16):(catS f n).take (16 * m)=catS f m:=by
  induction n with
  | zero=>obtain rfl:m=0:=by omega
          rfl
  | succ n ih=>
    have hl:=catS_len (n:=n) (fun k hk=>hf k (by omega))
    rcases Nat.lt_or_ge m (n+1) with h1 | h1
    · rw [← catS_step,List.take_append_of_le_length (by omega),ih (by omega) (fun k hk=>hf k (by omega))]
    · obtain rfl:m=n+1:=by omega
      exact List.take_of_length_le (by rw [catS_len hf];exact Nat.le_refl _)
theorem catS_part {f:Nat→List UInt8} {n k:Nat} (h:k < n) (hf:∀ k,k < n→(f k).length=16):((catS f n).drop (16 * k)).take 16=f k:=by
  have h1:=catS_take (m:=k+1) (by omega) hf
  have h2:=catS_take (m:=k) (by omega) hf
  have hl:=catS_len (n:=k) (fun j hj=>hf j (by omega))
  have:((catS f n).take (16 * (k+1))).drop (16 * k)=f k:=by
    rw [h1,← catS_step,List.drop_left' hl]
  rw [List.drop_take] at this
  rw [← this]
  congr 1
  omega
def pubF (seed:List UInt8) (k:Nat):List UInt8:=advS k 15 0 (stS seed (k:Int))
theorem pubF_len (seed:List UInt8) (k:Nat):(pubF seed k).length=16:=advS_len _ _ _ _ (stS_len _ _)
def pubS (seed:List UInt8):List UInt8:=ofS 5 [catS (pubF seed) 35]
theorem pubS_len (seed:List UInt8):(pubS seed).length=16:=ofS_len _ _
def sgnF (seed d:List UInt8) (k:Nat):List UInt8:=advS k (digT d k) 0 (stS seed (k:Int))
theorem sgnF_len (seed d:List UInt8) (k:Nat):(sgnF seed d k).length=16:=advS_len _ _ _ _ (stS_len _ _)
def sgnS (seed d:List UInt8):List UInt8:=catS (sgnF seed d) 35
theorem sgnS_len (seed d:List UInt8):(sgnS seed d).length=560:=by unfold sgnS;rw [catS_len (fun k _=>sgnF_len seed d k)]
end Go.Proofs.YtmhkkalbijbplaaGreatDoor

/- One-time signatures of the program: starts of chains, their values, the public key, signatures. -/
namespace Go.Proofs.YtmhkkalbijbplaaGreatDoor
open Go Go.Sx
set_option maxRecDepth 100000
set_option linter.unusedVariables false
theorem h130 (seed:List UInt8) (k:Int) (hk:seed.length≤64):Fun Tryz.prog tH2 130 [.str seed,.int .i64 k] [] 0 (.agg (bys (stS seed k))) [] 0:=by
  refine funV Tryz.f130 (by kernel_rfl) (fun _=>by simp only [SV.ren,ren_bytes]) ?_
  conv in mkSF _ _=>(reduce;simp only [u8lit,UInt8.reduceOfNat,Int.reduceOfNat,Int.reduceNegSucc])
  have e1:=encI_len k
  have fd:=h83 seed [99,104,97,105,110] (encI k) hk (by decide) (by omega)
  have hl:=derS_len seed [99,104,97,105,110] (encI k)
  unfold stS
  generalize derS seed [99,104,97,105,110] (encI k)=D at *
  have h16:(D.take 16).length=16:=by simp [hl]
  simp (config:={ maxSteps:=1000000 }) only [NV,↓NP,reduceCtorEq,Nat.reduceEqDiff,Nat.reduceAdd,↓reduceIte]
  refine callN [] (f34 k) ?_
  simp (config:={ maxSteps:=1000000 }) only [NV,NJ,↓NP,Nat.reduceEqDiff,Nat.reduceAdd,↓reduceIte]
  refine callN [(2,0)] fd ?_
  simp (config:={ maxSteps:=1000000 }) only [hl,h16,NV,NJ,↓NP,reduceCtorEq,Nat.reduceEqDiff,Nat.reduceAdd,Nat.reduceSub,Nat.reduceLT,Int.reduceToNat,Int.reduceLE,↓reduceIte,upd]
theorem h88 (seed:List UInt8) (k:Int) (hk:seed.length≤64):Fun Tryz.prog tH2 88 [.str seed,.int .i64 k] [] 0 (.str (leafS seed k)) [] 0:=by
  refine funV Tryz.f88 (by kernel_rfl) (fun _=>rfl) ?_
  conv in mkSF _ _=>(reduce;simp only [u8lit,UInt8.reduceOfNat,Int.reduceOfNat,Int.reduceNegSucc])
  have e1:=encI_len k
  have fd:=h83 seed [108,101,97,102] (encI k) hk (by decide) (by omega)
  unfold leafS
  simp (config:={ maxSteps:=1000000 }) only [NV,↓NP,reduceCtorEq,Nat.reduceEqDiff,Nat.reduceAdd,↓reduceIte]
  refine callN [] (f34 k) ?_
  simp (config:={ maxSteps:=1000000 }) only [NV,NJ,↓NP,Nat.reduceEqDiff,Nat.reduceAdd,↓reduceIte]
  refine callN [(1,0)] fd ?_
  simp (config:={ maxSteps:=1000000 }) only [NV,NJ,↓NP,Nat.reduceEqDiff,Nat.reduceSub,Nat.reduceLT,↓reduceIte]
theorem h166 (seed:List UInt8) (k:Nat) (hk:k < 35) (hs:seed.length≤64):Fun Tryz.prog tH2 166 [.int .i64 (k:Int),.ptr 0 0] [(0,⟨.view,[.str seed]⟩),(1,⟨.view,[]⟩),(2,⟨.view,[]⟩)] 3 (.agg (bys (pubF seed k))) [] 3:=by
  refine funV Tryz.f166 (by kernel_rfl) (fun _=>by simp only [SV.ren,ren_bytes]) ?_
  conv in mkSF _ _=>(reduce;simp only [u8lit,UInt8.reduceOfNat,Int.reduceOfNat,Int.reduceNegSucc])
  have h16:=stS_len seed (k:Int)
  have hp:=pubF_len seed k
  simp (config:={ maxSteps:=1000000 }) only [NV,↓NP,reduceCtorEq,Nat.reduceEqDiff,Nat.reduceAdd,↓reduceIte]
  refine callP (h130 seed (k:Int) hs) ?_
  simp (config:={ maxSteps:=1000000 }) only [NV,↓NP,Nat.reduceEqDiff,↓reduceIte]
  refine callP (h129 k 0 15 (stS seed (k:Int)) (by omega) (by omega) (by omega) h16) ?_
  rw [show advS k (15 - 0) 0 (stS seed (k:Int))=pubF seed k from rfl]
  simp (config:={ maxSteps:=1000000 }) only [hp,NV,↓NP,reduceCtorEq,Nat.reduceEqDiff,Nat.reduceAdd,↓reduceIte,upd]
theorem h128 (seed d:List UInt8) (k:Nat) (hk:k < 35) (hs:seed.length≤64):Fun Tryz.prog tH2 128 [.int .i64 (k:Int),.ptr 0 0,.ptr 1 0]
    [(0,⟨.view,[.slc 2 0 1 35 (some 35)]⟩),(1,⟨.view,[.str seed]⟩),(2,⟨.view,ints (digS d)⟩)] 3 (.agg (bys (sgnF seed d k))) [] 3:=by
  refine funV Tryz.f128 (by kernel_rfl) (fun _=>by simp only [SV.ren,ren_bytes]) ?_
  conv in mkSF _ _=>(reduce;simp only [u8lit,UInt8.reduceOfNat,Int.reduceOfNat,Int.reduceNegSucc])
  have h16:=stS_len seed (k:Int)
  have hp:=sgnF_len seed d k
  obtain ⟨ht,hg⟩:=digT_get d hk
  have gg:=get_ints hg
  have c2:(0:Int)≤(k:Int):=by omega
  have c3:(k:Int) < 35:=by omega
  have dl:=digS_len d
  simp (config:={ maxSteps:=1000000 }) only [c2,c3,dl,gg,hk,NV,↓NP,reduceCtorEq,Nat.reduceEqDiff,Nat.reduceAdd,↓reduceIte]
  refine callP (h130 seed (k:Int) hs) ?_
  simp (config:={ maxSteps:=1000000 }) only [NV,↓NP,reduceCtorEq,Nat.reduceEqDiff,↓reduceIte]
  refine callP (h129 k 0 (digT d k) (stS seed (k:Int)) (by omega) (by omega) ht h16) ?_
  rw [show advS k (digT d k - 0) 0 (stS seed (k:Int))=sgnF seed d k from rfl]
  simp (config:={ maxSteps:=1000000 }) only [hp,NV,↓NP,reduceCtorEq,Nat.reduceEqDiff,Nat.reduceAdd,↓reduceIte,upd]
end Go.Proofs.YtmhkkalbijbplaaGreatDoor

/- One-time signatures of the program: pieces joined, the public key, signatures. -/
namespace Go.Proofs.YtmhkkalbijbplaaGreatDoor
open Go Go.Sx
set_option maxRecDepth 100000
set_option linter.unusedVariables false
def jM (c0 c1 c2:List SV) (V:Nat→List UInt8):Nat→Mem
  | 0=>[(3,⟨.own 160,[.val (.pointer none),.val (.slice none 0 0)]⟩),(0,⟨.view,c0⟩),(1,⟨.view,c1⟩),(2,⟨.view,c2⟩)]
  | k+1=>[(4,⟨.own 5,bys (catS V (k+1))⟩),(3,⟨.own 160,[.ptr 3 0,.slc 4 0 1 (16 * (k+1)) none]⟩),(0,⟨.view,c0⟩),(1,⟨.view,c1⟩),(2,⟨.view,c2⟩)]
def jB:Nat→Nat
  | 0=>4
  | _+1=>5
set_option maxHeartbeats 4000000 in
theorem h127 (f:FuncId) (bs c0 c1 c2:List SV) (V:Nat→List UInt8) (hV:∀ k:Nat,k < 35→(V k).length=16∧Fun Tryz.prog tH2 f (.int .i64 (k:Int) :: bs) [(0,⟨.view,c0⟩),(1,⟨.view,c1⟩),(2,⟨.view,c2⟩)] 3 (.agg (bys (V k))) [] 3)
    (hr:∀ η:Nat→Nat × Nat,η 0=(0,0)→η 1=(1,0)→η 2=(2,0)→SV.renL η c0=c0∧SV.renL η c1=c1∧SV.renL η c2=c2∧SV.renL η bs=bs) :
    Fun Tryz.prog tH2 127 [.fn f [] bs] [(0,⟨.view,c0⟩),(1,⟨.view,c1⟩),(2,⟨.view,c2⟩)] 3 (.str (catS V 35)) [] 3:=by
  refine funV Tryz.f127 (by kernel_rfl) (fun _=>rfl) ?_
  conv in mkSF _ _=>(reduce;simp only [u8lit,UInt8.reduceOfNat,Int.reduceOfNat,Int.reduceNegSucc])
  have r0:=fun η h0 h1 h2=>(hr η h0 h1 h2).1
  have r1:=fun η h0 h1 h2=>(hr η h0 h1 h2).2.1
  have r2:=fun η h0 h1 h2=>(hr η h0 h1 h2).2.2.1
  have rb:=fun η h0 h1 h2=>(hr η h0 h1 h2).2.2.2
  simp (config:={ maxSteps:=1000000 }) only [reduceCtorEq,Nat.reduceEqDiff,Nat.reduceAdd,eq_self,frOf,den_o0,den_o1,kont_app,den_reg,den_seq,den_block,↓reduceIte,↓e_mv,↓e_new,Opd.ev,put,putO,del,dels,exV_mk]
  rw [den_loop]
  refine den_inv (fun _ _ _ _ _ h=>h) (σ:=Nat) (fun k=>[(6,.int .i64 (k:Int)),(3,.ptr 3 0),(0,.fn f [] bs)]) (jM c0 c1 c2 V) jB (fun k=>k≤35) (fun k=>35 - k) 0 ?_ (Nat.zero_le _) ?_
  · exact ⟨[(0,0),(1,0),(2,0),(3,0)],by simp only [jM,jB,r0,r1,r2,EntM,compat,apartM,keysBelow,eta,idHs,rd,SV.ren,SV.renL,Option.getD_some,List.getElem?_cons_zero,List.getElem?_cons_succ,List.length_cons,List.length_nil,Nat.zero_add,Nat.add_zero,Nat.reduceAdd,Nat.reduceSub,Nat.reduceEqDiff,Nat.reduceLT,Nat.reduceLeDiff,↓reduceIte,Kind.isOwn,List.take_succ_cons,List.take_zero,List.nil_append,List.cons_append,and_self,true_and,exists_eq_left',Option.some.injEq,List.drop_zero,List.take_length,Nat.le_refl,ne_eq,not_false_eq_true,implies_true,List.not_mem_nil,false_imp_iff,Bool.false_or,Bool.true_or,forall_const,reduceCtorEq,List.mem_cons,or_false,forall_eq_or_imp,forall_eq,Nat.succ_ne_self],by simp [rb,frEnt,geto,eta,SV.ren,SV.renL,Option.getD_some,List.length_cons,List.length_nil,Nat.zero_add,Nat.add_zero,Nat.reduceAdd,Nat.reduceEqDiff,Nat.reduceLT,Nat.reduceLeDiff,↓reduceIte,and_self,reduceCtorEq]⟩
  · intro k hk
    by_cases h35:k < 35
    · obtain ⟨hv,hF⟩:=hV k h35
      have c1':(k:Int) < 35:=by omega
      have v4:IntKind.i64.wrap ((k:Int)+1)=((k+1:Nat):Int):=by rw [wrap64_eq (by omega) (by omega)];omega
      cases k with
      | zero=>
        simp only [jM,jB]
        simp (config:={ maxSteps:=1000000 }) only [reduceCtorEq,Nat.reduceEqDiff,Int.reduceLT,eq_self,decide_true,Int.cast_ofNat_Int, true_and,List.nil_append,List.cons_append,List.map_cons,List.map_nil,den_o0,↓gd_tt,den_o1,kont_app,den_skip,den_reg,den_seq,den_cond,den_block,↓reduceIte,↓e_mv,↓e_bin,↓e_callv,↓u_binV,↓binI,Opd.ev,Sx.get,put,putO,del,dels,Int.cast_ofNat_Int]
        refine callN [(0,0),(1,0),(2,0)] hF ?_
        simp (config:={ maxSteps:=1000000 }) only [r0,r1,r2,rb,hv,and_self,reduceCtorEq,Nat.reduceEqDiff,Nat.reduceAdd,Nat.reduceSub,Nat.reduceLT,Int.reduceToNat,Int.reduceLE,false_imp_iff,eq_self,Int.cast_ofNat_Int, true_and,implies_true,List.getElem?_cons_zero,List.getElem?_cons_succ,List.length_cons,List.length_nil,List.nil_append,List.drop_zero,List.map_cons,List.map_nil,Nat.zero_add,Nat.add_zero,den_o0,den_o1,kont_app,den_reg,Bool.false_or,↓reduceIte,↓e_store,↓e_new,↓e_slcA,↓e_call,↓u_onOpt0,Opd.ev,Sx.get,put,putO,del,dels,rd,upd,SV.cells?,belowL,eta,SV.ren,SV.renL,newOwn,targets,rms,Kind.isOwn,ren_bytes,Option.getD_some,Nat.sub_zero,not_false_eq_true,Nat.le_refl,len_bytes,Nat.mul_one,Int.cast_ofNat_Int,splice_allE,compat,apartM,keysBelow,zeroSh,Option.some.injEq,exists_eq_left',List.forall_mem_cons,List.not_mem_nil,ne_eq,List.take_length,List.drop_zero]
        have f9:=f91a (tS:=tH2) (V 0) (by omega) (some 16)
        rw [hv] at f9
        refine callN [(3,0),(4,0)] f9 ?_
        simp (config:={ maxSteps:=1000000 }) only [and_self,again_n,reduceCtorEq,Nat.reduceEqDiff,Nat.reduceAdd,Nat.reduceSub,Nat.reduceLT,Int.reduceLE,Int.reduceAdd,Int.reduceNeg,wrap64,false_imp_iff,eq_self,Int.cast_ofNat_Int, true_and,imp_self,implies_true,List.getElem?_cons_zero,List.getElem?_cons_succ,List.length_cons,List.length_nil,List.nil_append,List.cons_append,List.drop_zero,Nat.zero_add,Nat.add_zero,den_nil,den_o0,den_o1,kont_app,den_reg,Bool.false_or,Bool.true_or,den_b,↓reduceIte,↓e_mv,↓e_bin,↓u_binV,↓binI,Opd.ev,Sx.get,put,putO,del,dels,rd,rm,belowL,eta,SV.ren,SV.renL,newOwn,targets,rms,Kind.isOwn,ren_bytes,List.getElem?_nil,Option.getD_none,Option.getD_some,Nat.sub_zero,not_false_eq_true,Nat.le_refl,len_bytes,Int.cast_ofNat_Int,take_bysE,compat,apartM,keysBelow,zeroSh,Option.some.injEq,exists_eq_left',List.forall_mem_cons,List.not_mem_nil,ne_eq,forall_const,List.drop_zero]
        exact ⟨1,⟨[(0,0),(1,0),(2,0),(3,0),(5,0)],by simp only [jM,jB,← catS_step V 0,show catS V 0=[] from rfl,r0,r1,r2,EntM,compat,apartM,keysBelow,eta,idHs,rd,SV.ren,SV.renL,Option.getD_some,List.getElem?_cons_zero,List.getElem?_cons_succ,List.length_cons,List.length_nil,Nat.zero_add,Nat.add_zero,Nat.reduceAdd,Nat.reduceSub,Nat.reduceEqDiff,Nat.reduceLT,Nat.reduceLeDiff,↓reduceIte,Kind.isOwn,List.take_succ_cons,List.take_zero,List.nil_append,List.cons_append,and_self,true_and,exists_eq_left',Option.some.injEq,List.drop_zero,List.take_length,Nat.le_refl,ne_eq,not_false_eq_true,implies_true,List.not_mem_nil,false_imp_iff,Bool.false_or,Bool.true_or,forall_const,reduceCtorEq,List.mem_cons,or_false,forall_eq_or_imp,forall_eq,Nat.succ_ne_self,ren_bytes],by simp [rb,frEnt,geto,eta,SV.ren,SV.renL,Option.getD_some,List.length_cons,List.length_nil,Nat.zero_add,Nat.add_zero,Nat.reduceAdd,Nat.reduceEqDiff,Nat.reduceLT,Nat.reduceLeDiff,↓reduceIte,and_self,reduceCtorEq]⟩,by omega,by omega⟩
      | succ k=>
        simp only [jM,jB]
        have hlk:=catS_len (f:=V) (n:=k+1) (fun j hj=>(hV j (by omega)).1)
        simp (config:={ maxSteps:=1000000 }) only [c1',reduceCtorEq,Nat.reduceEqDiff,eq_self,decide_true, true_and,List.nil_append,List.cons_append,List.map_cons,List.map_nil,den_o0,↓gd_tt,den_o1,kont_app,den_skip,den_reg,den_seq,den_cond,den_block,↓reduceIte,↓e_mv,↓e_bin,↓e_callv,↓u_binV,↓binI,Opd.ev,Sx.get,put,putO,del,dels]
        refine callN [(0,0),(1,0),(2,0)] hF ?_
        simp (config:={ maxSteps:=1000000 }) only [r0,r1,r2,rb,hv,and_self,reduceCtorEq,Nat.reduceEqDiff,Nat.reduceAdd,Nat.reduceSub,Nat.reduceLT,Int.reduceToNat,Int.reduceLE,false_imp_iff,eq_self,Int.cast_ofNat_Int, true_and,implies_true,List.getElem?_cons_zero,List.getElem?_cons_succ,List.length_cons,List.length_nil,List.nil_append,List.drop_zero,List.map_cons,List.map_nil,Nat.zero_add,Nat.add_zero,den_o0,den_o1,kont_app,den_reg,Bool.false_or,↓reduceIte,↓e_store,↓e_new,↓e_slcA,↓e_call,↓u_onOpt0,Opd.ev,Sx.get,put,putO,del,dels,rd,upd,SV.cells?,belowL,eta,SV.ren,SV.renL,newOwn,targets,rms,Kind.isOwn,ren_bytes,Option.getD_some,Nat.sub_zero,not_false_eq_true,Nat.le_refl,len_bytes,Nat.mul_one,Int.cast_ofNat_Int,splice_allE,compat,apartM,keysBelow,zeroSh,Option.some.injEq,exists_eq_left',List.forall_mem_cons,List.not_mem_nil,ne_eq,List.take_length,List.drop_zero]
        have f9:=f91b (tS:=tH2) (catS V (k+1)) (V (k+1)) (by omega) (some 16)
        rw [hv,hlk,catS_step] at f9
        refine callN [(3,0),(4,0),(5,0)] f9 ?_
        simp (config:={ maxSteps:=1000000 }) only [v4,and_self,again_n,reduceCtorEq,Nat.reduceEqDiff,Nat.reduceAdd,Nat.reduceSub,Nat.reduceLT,false_imp_iff,eq_self,Int.cast_ofNat_Int, true_and,imp_self,implies_true,List.getElem?_cons_zero,List.getElem?_cons_succ,List.length_cons,List.length_nil,List.nil_append,List.cons_append,List.drop_zero,Nat.zero_add,Nat.add_zero,den_nil,den_o0,den_o1,kont_app,den_reg,Bool.false_or,Bool.true_or,den_b,↓reduceIte,↓e_mv,↓e_bin,↓u_binV,↓binI,Opd.ev,Sx.get,put,putO,del,dels,rd,rm,belowL,eta,SV.ren,SV.renL,newOwn,targets,rms,Kind.isOwn,ren_bytes,List.getElem?_nil,Option.getD_none,Option.getD_some,not_false_eq_true,Nat.le_refl,len_bytes,Int.cast_ofNat_Int,take_bysE,compat,apartM,keysBelow,zeroSh,Option.some.injEq,exists_eq_left',List.forall_mem_cons,List.not_mem_nil,ne_eq,forall_const,List.drop_zero]
        exact ⟨k+1+1,⟨[(0,0),(1,0),(2,0),(3,0),(6,0)],by simp only [jM,jB,r0,r1,r2,EntM,compat,apartM,keysBelow,eta,idHs,rd,SV.ren,SV.renL,Option.getD_some,List.getElem?_cons_zero,List.getElem?_cons_succ,List.length_cons,List.length_nil,Nat.zero_add,Nat.add_zero,Nat.reduceAdd,Nat.reduceSub,Nat.reduceEqDiff,Nat.reduceLT,Nat.reduceLeDiff,↓reduceIte,Kind.isOwn,List.take_succ_cons,List.take_zero,List.nil_append,List.cons_append,and_self,and_true,true_and,exists_eq_left',Option.some.injEq,List.drop_zero,List.take_length,Nat.le_refl,ne_eq,not_false_eq_true,implies_true,List.not_mem_nil,false_imp_iff,Bool.false_or,Bool.true_or,forall_const,reduceCtorEq,List.mem_cons,or_false,forall_eq_or_imp,forall_eq,Nat.succ_ne_self,ren_bytes] <;> rfl,by simp [rb,frEnt,geto,eta,SV.ren,SV.renL,Option.getD_some,List.length_cons,List.length_nil,Nat.zero_add,Nat.add_zero,Nat.reduceAdd,Nat.reduceEqDiff,Nat.reduceLT,Nat.reduceLeDiff,↓reduceIte,and_self,reduceCtorEq]⟩,by omega,by omega⟩
    · obtain rfl:k=35:=by omega
      simp only [jM,jB]
      simp (config:={ maxSteps:=1000000 }) only [again_x,reduceCtorEq,Nat.reduceEqDiff,Nat.reduceAdd,Nat.reduceMul,Int.reduceLT,eq_self,decide_false,Int.cast_ofNat_Int, true_and,List.map_cons,List.map_nil,den_nil,den_o0,↓gd_ft,den_o1,kont_app,den_reg,den_seq,den_cond,den_exit,den_xb,den_xc,↓reduceIte,↓e_bin,↓e_call,↓u_binV,↓binI,Opd.ev,Sx.get,put,putO,del,dels,Int.cast_ofNat_Int]
      have hl:=catS_len (f:=V) (n:=35) (fun j hj=>(hV j hj).1)
      have f9:=f92 (tS:=tH2) (catS V 35) (by omega) (by omega)
      rw [hl] at f9
      refine callN [(3,0),(4,0)] f9 ?_
      simp (config:={ maxSteps:=1000000 }) only [and_self,reduceCtorEq,Nat.reduceEqDiff,Nat.reduceAdd,Nat.reduceSub,Nat.reduceMul,Nat.reduceLT,false_imp_iff,eq_self, true_and,implies_true,List.getElem?_cons_zero,List.getElem?_cons_succ,List.length_cons,List.length_nil,List.nil_append,Nat.zero_add,Nat.add_zero,den_nil,den_o0,den_o1,kont_app,Bool.true_or,den_ret,finP_r,↓reduceIte,↓e_mv,↓evRes,Opd.ev,Sx.get,put,putO,del,dels,rd,rm,retOf,belowL,eta,SV.ren,SV.renL,newOwn,targets,rms,Kind.isOwn,ren_bytes,Option.getD_some,not_false_eq_true,compat,apartM,keysBelow,zeroSh,Option.some.injEq,exists_eq_left',List.forall_mem_cons,List.not_mem_nil,ne_eq,forall_const]
theorem h148 (seed:List UInt8) (hs:seed.length≤64):Fun Tryz.prog tH2 148 [.str seed] [] 0 (.agg (bys (pubS seed))) [] 0:=by
  refine funV Tryz.f148 (by kernel_rfl) (fun _=>by simp only [SV.ren,ren_bytes]) ?_
  conv in mkSF _ _=>(reduce;simp only [u8lit,UInt8.reduceOfNat,Int.reduceOfNat,Int.reduceNegSucc])
  have fj:=h127 166 [.ptr 0 0] [.str seed] [] [] (pubF seed) (fun k hk=>⟨pubF_len seed k,h166 seed k hk hs⟩) (fun η h0 h1 h2=>by simp [SV.renL,SV.ren,h0])
  have hc:=catS_len (f:=pubF seed) (n:=35) (fun k _=>pubF_len seed k)
  have hO:=pubS_len seed
  unfold pubS at *
  generalize catS (pubF seed) 35=C at *
  have fo:Fun Tryz.prog tH2 131 [.int .i64 5,.slc 0 0 1 1 none] [(0,⟨.view,[.str C]⟩)] 1 (.agg (bys (ofS 5 [C]))) [] 1:=hOf 5 [C] (okT_1' (by omega))
  simp (config:={ maxSteps:=1000000 }) only [reduceCtorEq,Nat.reduceEqDiff,Nat.reduceAdd,eq_self,List.map_cons,List.map_nil,Nat.zero_add,frOf,den_o0,den_o1,kont_app,den_reg,den_seq,↓reduceIte,↓e_box,↓e_new,↓e_mkfn,↓e_call,Opd.ev,Sx.get,put,putO,del,dels,SV.cells?,SV.one,exV_mk]
  refine callN [(0,0),(0,0),(0,0)] fj ?_
  simp (config:={ maxSteps:=1000000 }) only [and_self,reduceCtorEq,Nat.reduceEqDiff,Nat.reduceAdd,Nat.reduceSub,Nat.reduceLeDiff,Nat.reduceLT,false_imp_iff,eq_self, true_and,and_true,imp_self,implies_true,List.getElem?_cons_zero,List.getElem?_cons_succ,List.length_cons,List.length_nil,List.nil_append,List.take_succ_cons,List.take_zero,List.drop_zero,List.take_nil,List.map_cons,List.map_nil,Nat.zero_add,Nat.add_zero,den_o1,kont_app,Bool.false_or,↓reduceIte,↓e_bslice,↓e_call,↓fillE,Opd.ev,Sx.get,put,putO,del,dels,rd,SV.cells?,SV.one,belowL,eta,SV.ren,SV.renL,newOwn,targets,rms,Kind.isOwn,Option.getD_some,not_true_eq_false,Nat.le_refl,splice_allE,compat,apartM,keysBelow,zeroSh,Option.some.injEq,exists_eq_left',List.forall_mem_cons,List.not_mem_nil,ne_eq,List.drop_zero]
  refine callN [(2,0)] fo ?_
  simp (config:={ maxSteps:=1000000 }) only [hO,and_self,reduceCtorEq,Nat.reduceEqDiff,Nat.reduceAdd,Nat.reduceSub,Nat.reduceLT,false_imp_iff,eq_self,implies_true,List.getElem?_cons_zero,List.length_cons,List.length_nil,List.nil_append,List.take_succ_cons,List.drop_zero,List.take_nil,List.map_cons,List.map_nil,Nat.zero_add,Nat.add_zero,den_nil,den_o0,den_o1,kont_app,Bool.false_or,den_ret,finP_r,↓reduceIte,↓e_load,↓e_store,↓evRes,Opd.ev,Sx.get,put,putO,del,dels,rd,upd,SV.cells?,retOf,belowL,eta,SV.ren,SV.renL,newOwn,targets,rms,Kind.isOwn,ren_bytes,Option.getD_some,Nat.le_refl,len_bytes,splice_allE,take_bysE,compat,apartM,keysBelow,zeroSh,Option.some.injEq,exists_eq_left',List.not_mem_nil,ne_eq,List.drop_zero]
theorem h87 (seed d:List UInt8) (hs:seed.length≤64) (hd:d.length=16):Fun Tryz.prog tH2 87 [.str seed,.agg (bys d)] [] 0 (.str (sgnS seed d)) [] 0:=by
  refine funV Tryz.f87 (by kernel_rfl) (fun _=>rfl) ?_
  conv in mkSF _ _=>(reduce;simp only [u8lit,UInt8.reduceOfNat,Int.reduceOfNat,Int.reduceNegSucc])
  have fj:=h127 128 [.ptr 0 0,.ptr 1 0] [.slc 2 0 1 35 (some 35)] [.str seed] (ints (digS d)) (sgnF seed d) (fun k hk=>⟨sgnF_len seed d k,h128 seed d k hk hs⟩)
    (fun η h0 h1 h2=>by simp [SV.renL,SV.ren,h0,h1,h2,ren_ints])
  have dl:=digS_len d
  simp (config:={ maxSteps:=1000000 }) only [hd,reduceCtorEq,Nat.reduceEqDiff,Nat.reduceAdd,eq_self, true_and,List.drop_zero,List.map_cons,List.map_nil,Nat.zero_add,frOf,den_o0,den_o1,kont_app,den_reg,den_seq,↓reduceIte,↓e_box,↓e_load,↓e_mv,↓e_call,Opd.ev,Sx.get,put,putO,del,dels,rd,SV.cells?,SV.one,Nat.le_refl,len_bytes,take_bysE,exV_mk]
  refine callN [] (f77 d hd) ?_
  simp (config:={ maxSteps:=1000000 }) only [and_self,reduceCtorEq,Nat.reduceEqDiff,Nat.reduceAdd,eq_self, true_and,imp_self,List.length_cons,List.length_nil,List.nil_append,List.cons_append,List.map_cons,List.map_nil,Nat.zero_add,Nat.add_zero,den_o0,den_o1,kont_app,den_reg,den_seq,↓reduceIte,↓e_store,↓e_new,↓e_mkfn,↓e_call,Opd.ev,Sx.get,put,putO,del,dels,rd,upd,SV.cells?,SV.one,belowL,eta,SV.ren,SV.renL,newOwn,targets,rms,Kind.isOwn,ren_bytes,ren_ints,List.getElem?_nil,Option.getD_none,Nat.sub_zero,Nat.le_refl,splice_allE,compat,apartM,keysBelow,zeroSh]
  refine callN [(3,0),(0,0),(2,0)] fj ?_
  simp (config:={ maxSteps:=1000000 }) only [and_self,reduceCtorEq,Nat.reduceEqDiff,Nat.reduceAdd,Nat.reduceSub,Nat.reduceLT,false_imp_iff,eq_self, true_and,implies_true,List.getElem?_cons_zero,List.getElem?_cons_succ,List.length_cons,List.length_nil,List.nil_append,List.take_succ_cons,List.drop_zero,List.take_nil,Nat.zero_add,Nat.add_zero,den_nil,den_o0,den_o1,kont_app,Bool.false_or,den_ret,finP_r,↓reduceIte,↓e_mv,↓evRes,Opd.ev,Sx.get,put,putO,del,dels,rd,retOf,belowL,eta,SV.ren,SV.renL,newOwn,targets,rms,Kind.isOwn,ren_ints,len_ints,Option.getD_some,not_false_eq_true,Nat.le_refl,take_ints,compat,apartM,keysBelow,zeroSh,Option.some.injEq,exists_eq_left',List.forall_mem_cons,List.not_mem_nil,ne_eq,List.drop_zero]
  rfl
end Go.Proofs.YtmhkkalbijbplaaGreatDoor

/- Merkle trees: leaves and nodes. -/
namespace Go.Proofs.YtmhkkalbijbplaaGreatDoor
open Go Go.Sx
set_option maxRecDepth 100000
set_option linter.unusedVariables false
variable {tS:List (Nat × List SV)}
theorem cStr_ok:∀ f a m n K,callX tabStr f a m n K→callT Tryz.prog tH f a m n K:=callX_ok tabStr_ok
set_option maxHeartbeats 4000000 in
theorem f99 (m:List UInt8) (hm:m.length < 2 ^ 40) (cap:Option Nat):Fun Tryz.prog tH 143 [.slc 0 0 1 m.length cap] [(0,⟨.view,bys m⟩)] 1 (.agg (bys (sumS m))) [] 1:=by
  refine fun_valG none (callX tabStr) cStr_ok ck143 (Nat.le_of_ble_eq_true rfl) (fun η=>by simp only [SV.ren,ren_bytes]) ?_
  conv in mkSF _ _=>(reduce;simp only [u8lit,UInt8.reduceOfNat,Int.reduceOfNat,Int.reduceNegSucc])
  rw [exG_mk]
  have tm:=take_bytes m
  have au:=all_isU8 m
  have mb:=map_byteOf m
  have g0:gBeg []=some (.agg hs0.l):=rfl
  have ga:=gAdd_eq (h:=hs0) (t:=m) rfl (by show 0+m.length < 2 ^ 60;omega)
  have gs:=gSum_eq (h:=hs0.add m) (hs0_len _) (by rw [hs0_n];omega)
  rw [hs0_n,HS.add_app] at gs
  have gs:gSum [.agg (hs0.add m).l]=some (.agg (bys (sumS m))):=gs
  have hx:=sumS_len m
  generalize sumS m=X at *
  have lX:(bys X).length=32:=by rw [len_bytes,hx]
  have tX:List.take 32 (bys X)=bys X:=List.take_of_length_le (by omega)
  have hfl:=HS.l_flat
  have hl:=len_bytes m
  simp (config:={ maxSteps:=1000000 }) only [tabStr,↓g0,↓ga,↓gs,tm,au,mb,hfl,lX,tX,hl,SV.flatL,SV.flat,lookF,reduceCtorEq,Nat.reduceEqDiff,Nat.reduceAdd,eq_self,frOf,↓reduceIte,↓evRes,evA,Opd.ev,Sx.get,put,putO,del,dels,frD,memD,pickD,kills,views,newer,rd,upd,splice,SV.cells?,SV.one,retOf,BB,↓PB]
def gHSum:GS
  | [.slc 0 0 1 len _],[(0,⟨.view,cells⟩)]=>match unB cells with
    | some m=>if len=m.length∧m.length≤2 ^ 37 then some (.agg (bys (sumS m)),[],1) else none
    | none=>none
  | _,_=>none
theorem gHSum_eq {m:List UInt8} {cap:Option Nat} (hm:m.length≤2 ^ 37):gHSum [.slc 0 0 1 m.length cap] [(0,⟨.view,bys m⟩)]=some (.agg (bys (sumS m)),[],1):=by
  unfold gHSum
  simp only [unB_bytes]
  rw [if_pos ⟨trivial,hm⟩]
theorem gHSum_ok:FunS Tryz.prog tH 143 gHSum:=by
  intro a0 m0 r m1 n1 h
  unfold gHSum at h
  split at h
  · split at h
    · rename_i m hm
      split at h
      · rename_i hc
        cases h
        obtain ⟨rfl,h2⟩:=hc
        rw [unB_some hm]
        exact ⟨f99 m (by omega) _,by simp [freshB]⟩
      · cases h
    · cases h
  · cases h
def tabSm:List (FuncId × GS):=[(143,gHSum)]
theorem tabSm_ok:∀ x ∈ tabSm,FunS Tryz.prog tH x.1 x.2:=by
  intro x hx
  simp only [tabSm,List.mem_cons,List.not_mem_nil,or_false] at hx
  subst hx
  exact gHSum_ok
theorem cSm_ok:∀ f a m n K,callS tabSm cF f a m n K→callT Tryz.prog tH f a m n K:=callS_ok tabSm_ok cF_ok
set_option maxHeartbeats 4000000 in
theorem f82 (m:List UInt8) (hm:m.length≤2 ^ 37) (cap:Option Nat):Fun Tryz.prog tH 107 [.slc 0 0 1 m.length cap] [(0,⟨.view,bys m⟩)] 1 (.agg (bys ((sumS m).take 16))) [] 1:=by
  refine fun_valG none (callS tabSm cF) cSm_ok ck107 (Nat.le_of_ble_eq_true rfl) (fun η=>by simp only [SV.ren,ren_bytes]) ?_
  conv in mkSF _ _=>(reduce;simp only [u8lit,UInt8.reduceOfNat,Int.reduceOfNat,Int.reduceNegSucc])
  rw [exG_mk]
  have tm:=take_bytes m
  have gs:=gHSum_eq (cap:=cap) hm
  have hx:=sumS_len m
  generalize sumS m=X at *
  have lX:(bys X).length=32:=by rw [len_bytes,hx]
  have t16:List.take 16 (bys X)=bys (X.take 16):=by simp [bys,List.map_take]
  have l16:(X.take 16).length=16:=by simp [hx]
  have lY:(bys (X.take 16)).length=16:=by rw [len_bytes,l16]
  have tY:List.take 16 (bys (X.take 16))=bys (X.take 16):=List.take_of_length_le (by omega)
  have hl:=len_bytes m
  simp (config:={ maxSteps:=1000000 }) only [tabSm,↓gs,tm,lX,t16,lY,tY,hl,lookF,reduceCtorEq,Nat.reduceEqDiff,Nat.reduceAdd,Nat.reduceSub,Nat.reduceLeDiff,Nat.reduceLT,Int.reduceToNat,Int.reduceLE,eq_self,frOf,↓reduceIte,↓evRes,Opd.ev,Sx.get,put,putO,del,dels,rd,upd,splice,SV.cells?,retOf,canLW,canV,canC,belowL,apH,apH1,SV.ren,newOwn,targets,rms,Kind.isOwn,BB,↓PB]
def tabBy:List (FuncId × GS):=[(43,gBytes)]
theorem tabBy'_ok:∀ x ∈ tabBy,FunS Tryz.prog tS x.1 x.2:=tabBy_ok
theorem cBy_ok:∀ f a m n K,callS tabBy cF f a m n K→callT Tryz.prog tS f a m n K:=callS_ok tabBy'_ok cF_ok
set_option maxHeartbeats 4000000 in
theorem f107_1 (d:List UInt8) (hd:d.length=16) (cap:Option Nat):Fun Tryz.prog tS 108 [.int .u8 1,.slc 0 0 16 1 cap] [(0,⟨.view,bys d⟩)] 1 (.slc 1 0 1 (ofM 1 [d]).length none) [(1,⟨.own 5,bys (ofM 1 [d])⟩)] 2:=by
  refine fun_anyG none (callS tabBy cF) cBy_ok ck108 (Nat.le_of_ble_eq_true rfl) (by decide) ?_
  conv in mkSF _ _=>(reduce;simp only [u8lit,UInt8.reduceOfNat,Int.reduceOfNat,Int.reduceNegSucc])
  rw [exG_mk]
  simp (config:={ maxSteps:=1000000 }) only [tabBy,reduceCtorEq,Nat.reduceEqDiff,Nat.reduceAdd,eq_self,frOf,↓reduceIte,↓fillE,Opd.ev,Sx.get,put,putO,del,dels,splice,SV.cells?,SV.one,BB,↓PB]
  rw [den_loop]
  refine den_unroll cBy_ok (callT_point _ _) 2 ?_
  have hl:(bys d).length=16:=by rw [len_bytes,hd]
  have td:=List.take_of_length_le (show (bys d).length≤16 by omega)
  have au:=all_isU8 d
  have mb:=map_byteOf d
  have gb:=gBytes_eq (s:=d) (by omega)
  have te:=take_bytes (encS d)
  have e1:(ofM 1 [d]).length=1+(encS d).length:=by simp [ofM];omega
  have e2:bys (ofM 1 [d])=SV.int .u8 1 :: bys (encS d):=by simp [ofM,bys];rfl
  have he:(encS d).length≤100:=by have:=encI_len (d.length:Int);simp [encS];omega
  rw [e1,e2]
  simp (config:={ maxSteps:=1000000 }) only [hl,td,au,mb,↓gb,te,lookF,reduceCtorEq,Nat.reduceEqDiff,Nat.reduceAdd,Nat.reduceMul,Nat.reduceLT,Int.reduceToNat,Int.reduceLT,Int.reduceLE,Int.reduceAdd,Int.reduceNeg,eq_self,↓reduceIte,↓binI,↓evRes,Opd.ev,Sx.get,put,putO,del,dels,rd,rm,upd,splice,SV.cells?,retOf,canLW,canV,belowL,apH,eta,SV.ren,newOwn,targets,rms,Kind.isOwn,BB,↓PB]
  exact ⟨by omega,by omega,[(0,0),(4,0)],by simp [SV.ren,EntM,compat,apartM,keysBelow,eta,idHs,rd,SV.ren,SV.renL,Nat.reduceAdd,Nat.reduceLeDiff,↓reduceIte,Kind.isOwn,exists_eq_left',ne_eq,implies_true,forall_const,BB],by simp [Nat.reduceAdd,Nat.reduceLeDiff,BB]⟩
set_option maxHeartbeats 4000000 in
theorem f107_2 (a b:List UInt8) (ha:a.length=16) (hb:b.length=16) (cap:Option Nat):Fun Tryz.prog tS 108 [.int .u8 2,.slc 0 0 16 2 cap] [(0,⟨.view,bys (a++b)⟩)] 1 (.slc 1 0 1 (ofM 2 [a,b]).length none) [(1,⟨.own 5,bys (ofM 2 [a,b])⟩)] 2:=by
  refine fun_anyG none (callS tabBy cF) cBy_ok ck108 (Nat.le_of_ble_eq_true rfl) (by decide) ?_
  conv in mkSF _ _=>(reduce;simp only [u8lit,UInt8.reduceOfNat,Int.reduceOfNat,Int.reduceNegSucc])
  rw [exG_mk]
  simp (config:={ maxSteps:=1000000 }) only [tabBy,reduceCtorEq,Nat.reduceEqDiff,Nat.reduceAdd,eq_self,frOf,↓reduceIte,↓fillE,Opd.ev,Sx.get,put,putO,del,dels,splice,SV.cells?,SV.one,BB,↓PB]
  rw [den_loop]
  refine den_unroll cBy_ok (callT_point _ _) 3 ?_
  have hl:(bys a).length=16:=by rw [len_bytes,ha]
  have hlb:(bys b).length=16:=by rw [len_bytes,hb]
  have hlab:(bys (a++b)).length=32:=by rw [len_bytes,List.length_append];omega
  have td:=List.take_of_length_le (show (bys a).length≤16 by omega)
  have tdb:=List.take_of_length_le (show (bys b).length≤16 by omega)
  have t1:List.take 16 (bys (a++b))=bys a:=by rw [← bytes_app];exact List.take_left' hl
  have t2:List.take 16 (List.drop 16 (bys (a++b)))=bys b:=by rw [← bytes_app,List.drop_left' hl];exact tdb
  have au:=all_isU8 a
  have mb:=map_byteOf a
  have gb:=gBytes_eq (s:=a) (by omega)
  have te:=take_bytes (encS a)
  have au2:=all_isU8 b
  have mb2:=map_byteOf b
  have gb2:=gBytes_eq (s:=b) (by omega)
  have te2:=take_bytes (encS b)
  have e1:(ofM 2 [a,b]).length=1+(encS a).length+(encS b).length:=by simp [ofM];omega
  have e2:bys (ofM 2 [a,b])=SV.int .u8 2 :: (bys (encS a)++bys (encS b)):=by simp [ofM,bys];rfl
  have he:(encS a).length≤100:=by have:=encI_len (a.length:Int);simp [encS];omega
  have he2:(encS b).length≤100:=by have:=encI_len (b.length:Int);simp [encS];omega
  have tt:List.take (1+(encS a).length) (SV.int .u8 2 :: bys (encS a))=SV.int .u8 2 :: bys (encS a):=List.take_of_length_le (by simp [len_bytes];omega)
  rw [e1,e2]
  simp (config:={ maxSteps:=1000000 }) only [hl,hlb,hlab,t1,t2,td,tdb,au,mb,↓gb,te,au2,mb2,↓gb2,te2,tt,lookF,reduceCtorEq,Nat.reduceEqDiff,Nat.reduceAdd,Nat.reduceMul,Nat.reduceLeDiff,Nat.reduceLT,Int.reduceToNat,Int.reduceLT,Int.reduceLE,Int.reduceAdd,Int.reduceNeg,eq_self,↓reduceIte,↓binI,↓evRes,Opd.ev,Sx.get,put,putO,del,dels,rd,rm,upd,splice,SV.cells?,retOf,canLW,canV,belowL,apH,eta,SV.ren,newOwn,targets,rms,Kind.isOwn,BB,↓PB]
  rw [← e2,← e1]
  exact ⟨by omega,by omega,by omega,by omega,by omega,[(0,0),(7,0)],by simp [EntM,compat,apartM,keysBelow,eta,idHs,rd,Nat.reduceAdd,Nat.reduceLeDiff,↓reduceIte,Kind.isOwn,exists_eq_left',ne_eq,implies_true,forall_const,BB],by simp [Nat.reduceAdd,Nat.reduceLeDiff,BB]⟩
def g107:GS
  | [.int .u8 1,.slc 0 0 16 1 _],[(0,⟨.view,cells⟩)]=>match unB cells with
    | some d=>if d.length=16 then some (.slc 1 0 1 (ofM 1 [d]).length none,[(1,⟨.own 5,bys (ofM 1 [d])⟩)],2) else none
    | none=>none
  | [.int .u8 2,.slc 0 0 16 2 _],[(0,⟨.view,cells⟩)]=>match unB cells with
    | some d=>if d.length=32 then some (.slc 1 0 1 (ofM 2 [d.take 16,d.drop 16]).length none,[(1,⟨.own 5,bys (ofM 2 [d.take 16,d.drop 16])⟩)],2) else none
    | none=>none
  | _,_=>none
theorem g107_1 {d:List UInt8} {cap:Option Nat} (hd:d.length=16):g107 [.int .u8 1,.slc 0 0 16 1 cap] [(0,⟨.view,bys d⟩)]=some (.slc 1 0 1 (ofM 1 [d]).length none,[(1,⟨.own 5,bys (ofM 1 [d])⟩)],2):=by
  unfold g107
  simp only [unB_bytes]
  rw [if_pos hd]
theorem g107_2 {a b:List UInt8} {cap:Option Nat} (ha:a.length=16) (hb:b.length=16):g107 [.int .u8 2,.slc 0 0 16 2 cap] [(0,⟨.view,bys a++bys b⟩)]=some (.slc 1 0 1 (ofM 2 [a,b]).length none,[(1,⟨.own 5,bys (ofM 2 [a,b])⟩)],2):=by
  unfold g107
  simp only
  rw [bytes_app,unB_bytes]
  simp only
  rw [if_pos (by simp [ha,hb]),List.take_left' ha,List.drop_left' ha]
theorem g107_ok:FunS Tryz.prog tS 108 g107:=by
  intro a0 m0 r m1 n1 h
  unfold g107 at h
  split at h
  · split at h
    · rename_i d hd
      split at h
      · rename_i hc
        cases h
        rw [unB_some hd]
        exact ⟨f107_1 d hc _,by simp [freshB]⟩
      · cases h
    · cases h
  · split at h
    · rename_i d hd
      split at h
      · rename_i hc
        cases h
        rw [unB_some hd]
        have:=f107_2 (tS:=tS) (d.take 16) (d.drop 16) (by simp;omega) (by simp;omega)
        rw [List.take_append_drop] at this
        exact ⟨this _,by simp [freshB]⟩
      · cases h
    · cases h
  · cases h
def tabIn:List (FuncId × GS):=[(108,g107)]
theorem tabIn_ok:∀ x ∈ tabIn,FunS Tryz.prog tS x.1 x.2:=by
  intro x hx
  simp only [tabIn,List.mem_cons,List.not_mem_nil,or_false] at hx
  subst hx
  exact g107_ok
theorem cIn_ok:∀ f a m n K,callS tabIn cF f a m n K→callT Tryz.prog tS f a m n K:=callS_ok tabIn_ok cF_ok
theorem f97 (d:List UInt8) (hd:d.length=16):Fun Tryz.prog tS 109 [.agg (bys d)] [] 0 (.slc 0 0 1 (ofM 1 [d]).length none) [(0,⟨.own 5,bys (ofM 1 [d])⟩)] 1:=by
  refine fun_anyG none (callS tabIn cF) cIn_ok ck109 (Nat.le_of_ble_eq_true rfl) (by decide) ?_
  conv in mkSF _ _=>(reduce;simp only [u8lit,UInt8.reduceOfNat,Int.reduceOfNat,Int.reduceNegSucc])
  rw [exG_mk]
  have hl:(bys d).length=16:=by rw [len_bytes,hd]
  have td:=List.take_of_length_le (show (bys d).length≤16 by omega)
  have g:=g107_1 (cap:=none) hd
  simp (config:={ maxSteps:=1000000 }) only [tabIn,hl,td,↓g,lookF,reduceCtorEq,Nat.reduceEqDiff,Nat.reduceAdd,Nat.reduceSub,Nat.reduceMul,Nat.reduceLT,eq_self,frOf,↓reduceIte,↓fillE,↓evRes,Opd.ev,Sx.get,put,putO,del,dels,rd,splice,SV.cells?,retOf,canLW,canV,canC,belowL,apH,apH1,eta,SV.ren,newOwn,targets,rms,Kind.isOwn,BB,↓PB]
  exact ⟨[(2,0)],by simp [EntM,compat,apartM,keysBelow,eta,idHs,rd,↓reduceIte,Kind.isOwn,exists_eq_left',ne_eq,implies_true,forall_const,BB],by simp [BB]⟩
theorem f98 (a b:List UInt8) (ha:a.length=16) (hb:b.length=16):Fun Tryz.prog tS 111 [.agg (bys a),.agg (bys b)] [] 0 (.slc 0 0 1 (ofM 2 [a,b]).length none) [(0,⟨.own 5,bys (ofM 2 [a,b])⟩)] 1:=by
  refine fun_anyG none (callS tabIn cF) cIn_ok ck111 (Nat.le_of_ble_eq_true rfl) (by decide) ?_
  conv in mkSF _ _=>(reduce;simp only [u8lit,UInt8.reduceOfNat,Int.reduceOfNat,Int.reduceNegSucc])
  rw [exG_mk]
  have hl:(bys a).length=16:=by rw [len_bytes,ha]
  have hlb:(bys b).length=16:=by rw [len_bytes,hb]
  have td:=List.take_of_length_le (show (bys a).length≤16 by omega)
  have tdb:=List.take_of_length_le (show (bys b).length≤16 by omega)
  have g:=g107_2 (cap:=none) ha hb
  have sp:∀ z:List SV,z.length=32→splice (splice z 0 (bys a)) 16 (bys b)=bys a++bys b:=by
    intro z hz
    unfold splice
    rw [hl,hlb,List.take_zero,List.nil_append,List.take_left' hl]
    rw [List.drop_of_length_le (by simp [len_bytes,ha,hz])]
    simp
  have lsp:∀ z:List SV,z.length=32→(splice z 0 (bys a)).length=32:=by
    intro z hz
    unfold splice
    simp [len_bytes,ha,hz]
  have lab:(bys a++bys b).length=32:=by simp [len_bytes,ha,hb]
  have fab:SV.flatL (bys a++bys b)=true:=by rw [bytes_app];exact flat_bytes _
  have tab:List.take 32 (bys a++bys b)=bys a++bys b:=List.take_of_length_le (by omega)
  simp (config:={ maxSteps:=1000000 }) only [tabIn,hl,hlb,td,tdb,sp,lsp,lab,fab,tab,↓g,lookF,reduceCtorEq,Nat.reduceEqDiff,Nat.reduceAdd,Nat.reduceSub,Nat.reduceMul,Nat.reduceLeDiff,Nat.reduceLT,eq_self,frOf,↓reduceIte,↓fillE,↓evRes,Opd.ev,Sx.get,put,putO,del,dels,rd,SV.cells?,retOf,canLW,canV,canC,belowL,apH,apH1,eta,SV.ren,newOwn,targets,rms,Kind.isOwn,BB,↓PB]
  exact ⟨[(3,0)],by simp [EntM,compat,apartM,keysBelow,eta,idHs,rd,↓reduceIte,Kind.isOwn,exists_eq_left',ne_eq,implies_true,forall_const,BB],by simp [BB]⟩
end Go.Proofs.YtmhkkalbijbplaaGreatDoor

/- Merkle trees: the split of a power of two. -/
namespace Go.Proofs.YtmhkkalbijbplaaGreatDoor
open Go Go.Sx
set_option maxRecDepth 100000
set_option linter.unusedVariables false
variable {tS:List (Nat × List SV)}
def P2 (j:Nat):Int:=((2 ^ j:Nat):Int)
theorem six {j:Nat} (hj:j < 6):j=0∨j=1∨j=2∨j=3∨j=4∨j=5:=by omega
theorem f111 (j:Nat) (hj:j < 6):Fun Tryz.prog tS 161 [.int .u64 (P2 (j+1) - 1)] [] 0 (.int .i64 ((j+1:Nat):Int)) [] 0:=by
  rcases six hj with rfl | rfl | rfl | rfl | rfl | rfl
  · show Fun Tryz.prog tS 161 [.int .u64 1] [] 0 (.int .i64 1) [] 0
    refine fun_pureG none cF cF_ok ck161 (Nat.le_of_ble_eq_true rfl) (fun η=>rfl) ?_
    conv in mkSF _ _=>(reduce;simp only [u8lit,UInt8.reduceOfNat,Int.reduceOfNat,Int.reduceNegSucc])
    rw [exG_mk]
    simp (config:={ maxSteps:=1000000 }) only [Int.reduceGE,reduceCtorEq,Nat.reduceEqDiff,↓reduceIte,BC,↓PC]
    exact ⟨by decide,rfl⟩
  · show Fun Tryz.prog tS 161 [.int .u64 3] [] 0 (.int .i64 2) [] 0
    refine fun_pureG none cF cF_ok ck161 (Nat.le_of_ble_eq_true rfl) (fun η=>rfl) ?_
    conv in mkSF _ _=>(reduce;simp only [u8lit,UInt8.reduceOfNat,Int.reduceOfNat,Int.reduceNegSucc])
    rw [exG_mk]
    simp (config:={ maxSteps:=1000000 }) only [Int.reduceGE,reduceCtorEq,Nat.reduceEqDiff,↓reduceIte,BC,↓PC]
    exact ⟨by decide,rfl⟩
  · show Fun Tryz.prog tS 161 [.int .u64 7] [] 0 (.int .i64 3) [] 0
    refine fun_pureG none cF cF_ok ck161 (Nat.le_of_ble_eq_true rfl) (fun η=>rfl) ?_
    conv in mkSF _ _=>(reduce;simp only [u8lit,UInt8.reduceOfNat,Int.reduceOfNat,Int.reduceNegSucc])
    rw [exG_mk]
    simp (config:={ maxSteps:=1000000 }) only [Int.reduceGE,reduceCtorEq,Nat.reduceEqDiff,↓reduceIte,BC,↓PC]
    exact ⟨by decide,rfl⟩
  · show Fun Tryz.prog tS 161 [.int .u64 15] [] 0 (.int .i64 4) [] 0
    refine fun_pureG none cF cF_ok ck161 (Nat.le_of_ble_eq_true rfl) (fun η=>rfl) ?_
    conv in mkSF _ _=>(reduce;simp only [u8lit,UInt8.reduceOfNat,Int.reduceOfNat,Int.reduceNegSucc])
    rw [exG_mk]
    simp (config:={ maxSteps:=1000000 }) only [Int.reduceGE,reduceCtorEq,Nat.reduceEqDiff,↓reduceIte,BC,↓PC]
    exact ⟨by decide,rfl⟩
  · show Fun Tryz.prog tS 161 [.int .u64 31] [] 0 (.int .i64 5) [] 0
    refine fun_pureG none cF cF_ok ck161 (Nat.le_of_ble_eq_true rfl) (fun η=>rfl) ?_
    conv in mkSF _ _=>(reduce;simp only [u8lit,UInt8.reduceOfNat,Int.reduceOfNat,Int.reduceNegSucc])
    rw [exG_mk]
    simp (config:={ maxSteps:=1000000 }) only [Int.reduceGE,reduceCtorEq,Nat.reduceEqDiff,↓reduceIte,BC,↓PC]
    exact ⟨by decide,rfl⟩
  · show Fun Tryz.prog tS 161 [.int .u64 63] [] 0 (.int .i64 6) [] 0
    refine fun_pureG none cF cF_ok ck161 (Nat.le_of_ble_eq_true rfl) (fun η=>rfl) ?_
    conv in mkSF _ _=>(reduce;simp only [u8lit,UInt8.reduceOfNat,Int.reduceOfNat,Int.reduceNegSucc])
    rw [exG_mk]
    simp (config:={ maxSteps:=1000000 }) only [Int.reduceGE,reduceCtorEq,Nat.reduceEqDiff,↓reduceIte,BC,↓PC]
    exact ⟨by decide,rfl⟩
def gLen:List SV→Option SV
  | [.int .u64 n]=>if n=1 then some (.int .i64 1) else if n=3 then some (.int .i64 2) else if n=7 then some (.int .i64 3) else if n=15 then some (.int .i64 4) else if n=31 then some (.int .i64 5) else if n=63 then some (.int .i64 6) else none
  | _=>none
theorem gLen_eq (j:Nat) (hj:j < 6):gLen [.int .u64 (P2 (j+1) - 1)]=some (.int .i64 ((j+1:Nat):Int)):=by
  rcases six hj with rfl | rfl | rfl | rfl | rfl | rfl <;> rfl
theorem gLen_some {n:Int} {r:SV} (h:gLen [.int .u64 n]=some r):∃ j,j < 6∧n=P2 (j+1) - 1∧r=.int .i64 ((j+1:Nat):Int):=by
  unfold gLen at h
  simp only at h
  split at h
  · cases h;subst n;exact ⟨0,by decide,rfl,rfl⟩
  split at h
  · cases h;subst n;exact ⟨1,by decide,rfl,rfl⟩
  split at h
  · cases h;subst n;exact ⟨2,by decide,rfl,rfl⟩
  split at h
  · cases h;subst n;exact ⟨3,by decide,rfl,rfl⟩
  split at h
  · cases h;subst n;exact ⟨4,by decide,rfl,rfl⟩
  split at h
  · cases h;subst n;exact ⟨5,by decide,rfl,rfl⟩
  · cases h
theorem gLen_of {f:FuncId} (H:∀ j,j < 6→Fun Tryz.prog tS f [.int .u64 (P2 (j+1) - 1)] [] 0 (.int .i64 ((j+1:Nat):Int)) [] 0):TabX Tryz.prog tS ⟨[(f,gLen)],[]⟩:=by
  refine ⟨fun x h args r hr=>?_,fun x h=>by simp at h⟩
  simp only [List.mem_singleton] at h
  subst h
  simp only at hr
  have:∃ n,args=[.int .u64 n]:=by
    unfold gLen at hr
    split at hr
    · exact ⟨_,rfl⟩
    · cases hr
  obtain ⟨n,rfl⟩:=this
  obtain ⟨j,hj,rfl,rfl⟩:=gLen_some hr
  exact ⟨H j hj,fun η=>by simp only [SV.renL,SV.ren],fun η=>by simp only [SV.renL,SV.ren]⟩
theorem f109 (j:Nat) (hj:j < 6):Fun Tryz.prog tS 144 [.int .u64 (P2 (j+1) - 1)] [] 0 (.int .i64 ((j+1:Nat):Int)) [] 0:=by
  refine fun_pureG none (callX ⟨[(161,gLen)],[]⟩) (callX_ok (gLen_of f111)) ck144 (Nat.le_of_ble_eq_true rfl) (fun η=>rfl) ?_
  conv in mkSF _ _=>(reduce;simp only [u8lit,UInt8.reduceOfNat,Int.reduceOfNat,Int.reduceNegSucc])
  rw [exG_mk]
  have g:=gLen_eq j hj
  simp (config:={ maxSteps:=1000000 }) only [↓g,reduceCtorEq,Nat.reduceEqDiff,↓reduceIte,BC,↓PC]
theorem f106 (j:Nat) (hj:j < 6):Fun Tryz.prog tS 110 [.int .i64 (P2 (j+1))] [] 0 (.int .i64 (P2 j)) [] 0:=by
  refine fun_pureG none (callX ⟨[(144,gLen)],[]⟩) (callX_ok (gLen_of f109)) ck110 (Nat.le_of_ble_eq_true rfl) (fun η=>rfl) ?_
  conv in mkSF _ _=>(reduce;simp only [u8lit,UInt8.reduceOfNat,Int.reduceOfNat,Int.reduceNegSucc])
  rw [exG_mk]
  have g:=gLen_eq j hj
  have h1:P2 (j+1)≤64∧2≤P2 (j+1):=by rcases six hj with rfl | rfl | rfl | rfl | rfl | rfl <;> decide
  have w1:IntKind.i64.wrap (P2 (j+1) - 1)=P2 (j+1) - 1:=wrap64_eq (by omega) (by omega)
  have w2:IntKind.u64.wrap (P2 (j+1) - 1)=P2 (j+1) - 1:=by
    rw [show IntKind.u64.wrap (P2 (j+1) - 1)=(P2 (j+1) - 1) % 18446744073709551616 by simp [IntKind.wrap,IntKind.bits,IntKind.signed]];omega
  have w3:IntKind.i64.wrap (((j+1:Nat):Int) - 1)=(j:Int):=by rw [wrap64_eq (by omega) (by omega)];omega
  have c0:(0:Int)≤(j:Int):=by omega
  have w4:IntKind.i64.wrap (1 * 2 ^ (min j IntKind.i64.bits))=P2 j:=by
    rcases six hj with rfl | rfl | rfl | rfl | rfl | rfl <;> rfl
  simp (config:={ maxSteps:=1000000 }) only [w1,w2,↓g,w3,c0,w4,reduceCtorEq,Nat.reduceEqDiff,↓reduceIte,BC,↓PC]
theorem f103 (j:Nat) (hj:j < 6):Fun Tryz.prog tS 78 [.int .i64 (P2 (j+1))] [] 0 (.int .i64 (P2 j)) [] 0:=by
  refine fun_pureG (some 8) cF cF_ok ck78 (Nat.le_of_ble_eq_true rfl) (fun η=>rfl) ?_
  conv in mkSF _ _=>(reduce;simp only [u8lit,UInt8.reduceOfNat,Int.reduceOfNat,Int.reduceNegSucc])
  rw [exG_mk]
  rcases six hj with rfl | rfl | rfl | rfl | rfl | rfl
  all_goals
    simp (config:={ maxSteps:=1000000 }) only [P2,Nat.reducePow,Nat.reduceAdd,reduceCtorEq,Nat.reduceEqDiff,Nat.reduceAdd,Int.reduceLT,Int.reduceLE,Int.reduceSub,Int.reduceMul,Int.reduceNeg,↓reduceIte,BC,↓PC]
def gSpl:List SV→Option SV
  | [.int .i64 n]=>if n=2 then some (.int .i64 1) else if n=4 then some (.int .i64 2) else if n=8 then some (.int .i64 4) else if n=16 then some (.int .i64 8) else if n=32 then some (.int .i64 16) else if n=64 then some (.int .i64 32) else none
  | _=>none
theorem gSpl_eq (j:Nat) (hj:j < 6):gSpl [.int .i64 (P2 (j+1))]=some (.int .i64 (P2 j)):=by
  rcases six hj with rfl | rfl | rfl | rfl | rfl | rfl <;> rfl
theorem gSpl_some {n:Int} {r:SV} (h:gSpl [.int .i64 n]=some r):∃ j,j < 6∧n=P2 (j+1)∧r=.int .i64 (P2 j):=by
  unfold gSpl at h
  simp only at h
  split at h
  · cases h;subst n;exact ⟨0,by decide,rfl,rfl⟩
  split at h
  · cases h;subst n;exact ⟨1,by decide,rfl,rfl⟩
  split at h
  · cases h;subst n;exact ⟨2,by decide,rfl,rfl⟩
  split at h
  · cases h;subst n;exact ⟨3,by decide,rfl,rfl⟩
  split at h
  · cases h;subst n;exact ⟨4,by decide,rfl,rfl⟩
  split at h
  · cases h;subst n;exact ⟨5,by decide,rfl,rfl⟩
  · cases h
theorem gSpl_of {f:FuncId} (H:∀ j,j < 6→Fun Tryz.prog tS f [.int .i64 (P2 (j+1))] [] 0 (.int .i64 (P2 j)) [] 0):TabX Tryz.prog tS ⟨[(f,gSpl)],[]⟩:=by
  refine ⟨fun x h args r hr=>?_,fun x h=>by simp at h⟩
  simp only [List.mem_singleton] at h
  subst h
  simp only at hr
  have:∃ n,args=[.int .i64 n]:=by
    unfold gSpl at hr
    split at hr
    · exact ⟨_,rfl⟩
    · cases hr
  obtain ⟨n,rfl⟩:=this
  obtain ⟨j,hj,rfl,rfl⟩:=gSpl_some hr
  exact ⟨H j hj,fun η=>by simp only [SV.renL,SV.ren],fun η=>by simp only [SV.renL,SV.ren]⟩
end Go.Proofs.YtmhkkalbijbplaaGreatDoor

/- Merkle trees: the path of an index. -/
namespace Go.Proofs.YtmhkkalbijbplaaGreatDoor
open Go Go.Sx
set_option maxRecDepth 100000
set_option linter.unusedVariables false
variable {tS:List (Nat × List SV)}
def bls (l:List Bool):List SV:=l.map SV.bool
theorem flat_bls:∀ l:List Bool,SV.flatL (bls l)=true
  | []=>rfl
  | b :: l=>by simp only [bls,List.map_cons,SV.flatL,SV.flat,Bool.true_and];exact flat_bls l
theorem ren_bls (η:Nat→Nat × Nat) (l:List Bool):SV.renL η (bls l)=bls l:=SV.flatL_ren η _ (flat_bls l)
theorem len_bls (l:List Bool):(bls l).length=l.length:=by simp [bls]
theorem take_bls (l:List Bool):List.take l.length (bls l)=bls l:=List.take_of_length_le (by rw [len_bls];omega)
theorem app_bls (l:List Bool) (b:Bool):bls l++[.bool b]=bls (l++[b]):=by simp [bls]
def bitB (i t:Nat):Bool:=decide (i / 2 ^ t % 2=1)
def bD (i h:Nat):Nat→List Bool
  | 0=>[]
  | c+1=>bD i h c++[bitB i (h - 1 - c)]
theorem bD_len (i h:Nat):∀ c,(bD i h c).length=c
  | 0=>rfl
  | c+1=>by simp [bD,bD_len i h c]
def atN (i j:Nat):Nat:=i / 2 ^ j * 2 ^ j
theorem at_facts:∀ i:Fin 64,∀ j:Fin 6,atN i (j+1)+(if bitB i j=true then 2 ^ j.val else 0)=atN i j∧(decide ((i.val:Int) - (atN i (j+1):Int) < P2 j)=!bitB i j)∧atN i j≤i:=by decide
theorem f95a (x y z v:Int):Fun Tryz.prog tS 159 [.int .i64 x,.int .i64 y,.int .i64 z,.int .i64 v,.ptr 0 0] [(0,⟨.own 112,[.val (.slice none 0 0)]⟩)] 1 (.tup []) [(0,⟨.own 112,[.slc 1 0 1 1 none]⟩),(1,⟨.own 4,bls [decide (z < x)]⟩)] 2:=by
  refine fun_anyG none cF cF_ok ck159 (Nat.le_of_ble_eq_true rfl) (by decide) ?_
  conv in mkSF _ _=>(reduce;simp only [u8lit,UInt8.reduceOfNat,Int.reduceOfNat,Int.reduceNegSucc])
  rw [exG_mk]
  simp (config:={ maxSteps:=1000000 }) only [reduceCtorEq,Nat.reduceEqDiff,Nat.reduceAdd,↓reduceIte,upd,splice,BC,↓PC]
  exact ⟨by omega,by omega,[(0,0),(2,0)],by simp [bls,Nat.reduceAdd,Nat.reduceLeDiff,↓reduceIte,reduceCtorEq,BC]⟩
theorem f95b (x y z v:Int) (l:List Bool) (hl:l.length≤1000):Fun Tryz.prog tS 159 [.int .i64 x,.int .i64 y,.int .i64 z,.int .i64 v,.ptr 0 0] [(0,⟨.own 112,[.slc 1 0 1 l.length none]⟩),(1,⟨.own 4,bls l⟩)] 2 (.tup [])
    [(0,⟨.own 112,[.slc 2 0 1 (l.length+1) none]⟩),(2,⟨.own 4,bls (l++[decide (z < x)])⟩)] 3:=by
  refine fun_anyG none cF cF_ok ck159 (Nat.le_of_ble_eq_true rfl) (by decide) ?_
  conv in mkSF _ _=>(reduce;simp only [u8lit,UInt8.reduceOfNat,Int.reduceOfNat,Int.reduceNegSucc])
  rw [exG_mk]
  have hl:=len_bls l
  have tl:=take_bls l
  simp (config:={ maxSteps:=1000000 }) only [hl,tl,app_bls,reduceCtorEq,Nat.reduceEqDiff,Nat.reduceAdd,↓reduceIte,upd,splice,BC,↓PC]
  exact ⟨by omega,by omega,[(0,0),(1,0),(3,0)],rfl,by simp [ren_bls,compat,apartM,keysBelow,eta,idHs,rd,SV.ren,SV.renL,Nat.reduceAdd,Nat.reduceLeDiff,↓reduceIte,Kind.isOwn,exists_eq_left',ne_eq,implies_true,forall_const,reduceCtorEq,forall_eq,BB]⟩
def cDs:CallT:=callAnd 159 (callT Tryz.prog tS) (callX ⟨[(110,gSpl)],[]⟩)
theorem cDs_ok:∀ f a m n K,cDs (tS:=tS) f a m n K→callT Tryz.prog tS f a m n K:=callAnd_ok (callX_ok (gSpl_of f106))
set_option maxHeartbeats 8000000 in
theorem f94 (h i:Nat) (hh:h≤6) (hi:i < 2 ^ h):Fun Tryz.prog tS 123 [.int .i64 (P2 h),.int .i64 (i:Int),.fn 159 [] [.ptr 0 0]] [(0,⟨.own 112,[.val (.slice none 0 0)]⟩)] 1 (.tup [])
    (nlM 1 4 (bls (bD i h h)) [(0,⟨.own 112,[nlS 1 1 h]⟩)] h) (nlN 1 h):=by
  refine fun_anyG none cDs cDs_ok ck123 (Nat.le_of_ble_eq_true rfl) (by cases h <;> simp [nlN]) ?_
  conv in mkSF _ _=>(reduce;simp only [u8lit,UInt8.reduceOfNat,Int.reduceOfNat,Int.reduceNegSucc])
  rw [exG_mk]
  have hi64:i < 64:=Nat.lt_of_lt_of_le hi (Nat.pow_le_pow_right (by decide) hh)
  have at0:atN i h=0:=by unfold atN;rw [Nat.div_eq_of_lt hi];simp
  simp (config:={ maxSteps:=1000000 }) only [cDs,reduceCtorEq,Nat.reduceEqDiff,Nat.reduceAdd,↓reduceIte,BC,↓PC]
  rw [den_loop]
  refine den_inv cDs_ok (σ:=Nat) (fun c=>[(6,.int .i64 (atN i (h - c):Int)),(0,.int .i64 (P2 (h - c))),(1,.int .i64 (i:Int)),(2,.fn 159 [] [.ptr 0 0])])
    (fun c=>nlM 1 4 (bls (bD i h c)) [(0,⟨.own 112,[nlS 1 1 c]⟩)] c) (fun c=>nlN 1 c) (fun c=>c≤h) (fun c=>h - c) 0 ?_ (Nat.zero_le _) ?_
  · exact ⟨[(0,0)],by simp [↓reduceIte,BC],by simp [at0,Nat.reduceEqDiff,↓reduceIte,reduceCtorEq,BC]⟩
  · intro c hc
    by_cases hch:c < h
    · obtain ⟨j,hj⟩:∃ j,h - c=j+1:=⟨h - c - 1,by omega⟩
      have hj6:j < 6:=by omega
      have hj':h - (c+1)=j:=by omega
      have hj2:h - 1 - c=j:=by omega
      rw [hj]
      have g:=gSpl_eq j hj6
      obtain ⟨a1,a2,a3⟩:=at_facts ⟨i,hi64⟩ ⟨j,hj6⟩
      simp only at a1 a2 a3
      have p1:P2 (j+1)=P2 j+P2 j:=by unfold P2;rw [Nat.pow_succ];omega
      have p2:1≤P2 j∧P2 j≤32:=by rcases six hj6 with rfl | rfl | rfl | rfl | rfl | rfl <;> decide
      have p3:(2 ^ j:Nat)=(P2 j).toNat:=by unfold P2;exact (Int.toNat_natCast _).symm
      have c1:P2 (j+1) > 1:=by omega
      have a4:atN i (j+1)≤63:=by split at a1 <;> omega
      have w1:IntKind.i64.wrap ((i:Int) - (atN i (j+1):Int))=(i:Int) - (atN i (j+1):Int):=wrap64_eq (by omega) (by omega)
      have w2:IntKind.i64.wrap ((atN i (j+1):Int)+P2 j)=(atN i (j+1):Int)+P2 j:=wrap64_eq (by omega) (by omega)
      have w3:IntKind.i64.wrap (P2 (j+1) - P2 j)=P2 j:=by rw [wrap64_eq (by omega) (by omega)];omega
      have z1:decide ((atN i (j+1):Int)+P2 j < (atN i (j+1):Int))=false:=by simp;omega
      have z2:decide ((atN i (j+1):Int) < (atN i (j+1):Int)+P2 j)=true:=by simp;omega
      have hb:bD i h (c+1)=bD i h c++[bitB i j]:=by simp only [bD,hj2]
      have hbl:=bD_len i h c
      cases hbit:bitB i j with
      | false=>
        rw [hbit] at a1 a2 hb
        simp only [Bool.not_false,Bool.false_eq_true,if_false,Nat.add_zero] at a1 a2
        have e4:(atN i j:Int)=(atN i (j+1):Int):=by rw [a1]
        rcases Nat.eq_zero_or_pos c with h0 | h0
        · simp only [nlS_z h0,nlM_z h0,nlN_z h0]
          simp (config:={ maxSteps:=1000000 }) only [c1,↓g,w1,w2,w3,a2,reduceCtorEq,Nat.reduceEqDiff,↓reduceIte,BC,↓PC]
          refine ⟨[(0,0)],_,_,_,_,2,f95a _ _ _ _,rfl,⟨⟨_,rfl,rfl,rfl,rfl⟩,trivial⟩,⟨by simp,trivial⟩,⟨by decide,trivial⟩,by simp,⟨fun _=>rfl,fun _=>rfl,trivial⟩,?_⟩
          have hb0:bls (bD i h (c+1))=bls [false]:=by rw [hb,h0];rfl
          simp (config:={ maxSteps:=1000000 }) only [z1,ren_bls,reduceCtorEq,Nat.reduceEqDiff,Nat.reduceAdd,Nat.reduceSub,↓reduceIte,BC,↓PC]
          refine ⟨c+1,?_,by omega,by omega⟩
          simp only [nlS_p (Nat.succ_pos c),nlM_p (Nat.succ_pos c),nlN_p (Nat.succ_pos c),hb0,e4,hj']
          exact ⟨[(0,0),(1,0)],by simp [ren_bls,h0,Nat.reduceAdd,Nat.reduceLeDiff,↓reduceIte,BC],by simp [Nat.reduceAdd,Nat.reduceEqDiff,↓reduceIte,reduceCtorEq,BC]⟩
        · simp only [nlS_p h0,nlM_p h0,nlN_p h0]
          simp (config:={ maxSteps:=1000000 }) only [c1,↓g,w1,w2,w3,a2,reduceCtorEq,Nat.reduceEqDiff,Nat.reduceAdd,↓reduceIte,BC,↓PC]
          have F:=fun x y z v=>f95b (tS:=tS) x y z v (bD i h c) (by omega)
          rw [hbl] at F
          refine ⟨[(0,0),(1,0)],_,_,_,_,3,F _ _ _ _,rfl,⟨⟨_,rfl,rfl,rfl,rfl⟩,⟨_,rfl,rfl,rfl,(ren_bls _ _).symm⟩,trivial⟩,⟨by intro x hx;simp at hx;subst hx;intro _;simp [eta],⟨by simp,trivial⟩⟩,⟨by decide,by decide,trivial⟩,
            by intro x hx;simp at hx;rcases hx with rfl | rfl <;> decide,⟨fun _=>rfl,fun _=>rfl,trivial⟩,?_⟩
          simp (config:={ maxSteps:=1000000 }) only [z1,ren_bls,reduceCtorEq,Nat.reduceEqDiff,Nat.reduceAdd,Nat.reduceSub,↓reduceIte,BC,↓PC]
          refine ⟨c+1,?_,by omega,by omega⟩
          simp only [nlS_p (Nat.succ_pos c),nlM_p (Nat.succ_pos c),nlN_p (Nat.succ_pos c),hb,e4,hj']
          exact ⟨[(0,0),(2,0)],by simp [ren_bls,Nat.reduceAdd,Nat.reduceLeDiff,↓reduceIte,reduceCtorEq,BC],by simp [Nat.reduceAdd,Nat.reduceEqDiff,↓reduceIte,reduceCtorEq,BC]⟩
      | true=>
        rw [hbit] at a1 a2 hb
        simp only [Bool.not_true,if_true] at a1 a2
        have e4:(atN i j:Int)=(atN i (j+1):Int)+P2 j:=by rw [← a1];unfold P2;omega
        rcases Nat.eq_zero_or_pos c with h0 | h0
        · simp only [nlS_z h0,nlM_z h0,nlN_z h0]
          simp (config:={ maxSteps:=1000000 }) only [c1,↓g,w1,w2,w3,a2,reduceCtorEq,Nat.reduceEqDiff,↓reduceIte,BC,↓PC]
          refine ⟨[(0,0)],_,_,_,_,2,f95a _ _ _ _,rfl,⟨⟨_,rfl,rfl,rfl,rfl⟩,trivial⟩,⟨by simp,trivial⟩,⟨by decide,trivial⟩,by simp,⟨fun _=>rfl,fun _=>rfl,trivial⟩,?_⟩
          have hb0:bls (bD i h (c+1))=bls [true]:=by rw [hb,h0];rfl
          simp (config:={ maxSteps:=1000000 }) only [w2,w3,z2,ren_bls,reduceCtorEq,Nat.reduceEqDiff,Nat.reduceAdd,Nat.reduceSub,↓reduceIte,BC,↓PC]
          refine ⟨c+1,?_,by omega,by omega⟩
          simp only [nlS_p (Nat.succ_pos c),nlM_p (Nat.succ_pos c),nlN_p (Nat.succ_pos c),hb0,e4,hj']
          exact ⟨[(0,0),(1,0)],by simp [ren_bls,h0,Nat.reduceAdd,Nat.reduceLeDiff,↓reduceIte,BC],by simp [Nat.reduceAdd,Nat.reduceEqDiff,↓reduceIte,reduceCtorEq,BC]⟩
        · simp only [nlS_p h0,nlM_p h0,nlN_p h0]
          simp (config:={ maxSteps:=1000000 }) only [c1,↓g,w1,w2,w3,a2,reduceCtorEq,Nat.reduceEqDiff,Nat.reduceAdd,↓reduceIte,BC,↓PC]
          have F:=fun x y z v=>f95b (tS:=tS) x y z v (bD i h c) (by omega)
          rw [hbl] at F
          refine ⟨[(0,0),(1,0)],_,_,_,_,3,F _ _ _ _,rfl,⟨⟨_,rfl,rfl,rfl,rfl⟩,⟨_,rfl,rfl,rfl,(ren_bls _ _).symm⟩,trivial⟩,⟨by intro x hx;simp at hx;subst hx;intro _;simp [eta],⟨by simp,trivial⟩⟩,⟨by decide,by decide,trivial⟩,
            by intro x hx;simp at hx;rcases hx with rfl | rfl <;> decide,⟨fun _=>rfl,fun _=>rfl,trivial⟩,?_⟩
          simp (config:={ maxSteps:=1000000 }) only [w2,w3,z2,ren_bls,reduceCtorEq,Nat.reduceEqDiff,Nat.reduceAdd,Nat.reduceSub,↓reduceIte,BC,↓PC]
          refine ⟨c+1,?_,by omega,by omega⟩
          simp only [nlS_p (Nat.succ_pos c),nlM_p (Nat.succ_pos c),nlN_p (Nat.succ_pos c),hb,e4,hj']
          exact ⟨[(0,0),(2,0)],by simp [ren_bls,Nat.reduceAdd,Nat.reduceLeDiff,↓reduceIte,reduceCtorEq,BC],by simp [Nat.reduceAdd,Nat.reduceEqDiff,↓reduceIte,reduceCtorEq,BC]⟩
    · obtain rfl:c=h:=by omega
      rw [Nat.sub_self]
      have c3:decide (P2 0 > 1)=false:=rfl
      rcases Nat.eq_zero_or_pos c with h0 | h0
      · simp only [nlS_z h0,nlM_z h0,nlN_z h0]
        simp (config:={ maxSteps:=1000000 }) only [c3,reduceCtorEq,Nat.reduceEqDiff,↓reduceIte,BC,↓PC]
        exact ⟨[(0,0)],by simp [↓reduceIte,BC]⟩
      · simp only [nlS_p h0,nlM_p h0,nlN_p h0]
        simp (config:={ maxSteps:=1000000 }) only [c3,reduceCtorEq,Nat.reduceEqDiff,Nat.reduceAdd,↓reduceIte,BC,↓PC]
        exact ⟨[(0,0),(1,0)],by simp [ren_bls,Nat.reduceAdd,Nat.reduceLeDiff,↓reduceIte,BC]⟩
end Go.Proofs.YtmhkkalbijbplaaGreatDoor

/- Merkle trees: the bits of an index, turned round. -/
namespace Go.Proofs.YtmhkkalbijbplaaGreatDoor
open Go Go.Sx
set_option maxRecDepth 100000
set_option linter.unusedVariables false
variable {tS:List (Nat × List SV)}
theorem six_list {l:List Bool} (h:l.length≤6):l=[]∨(∃ a,l=[a])∨(∃ a b,l=[a,b])∨(∃ a b c,l=[a,b,c])∨(∃ a b c d,l=[a,b,c,d])∨(∃ a b c d e,l=[a,b,c,d,e])∨∃ a b c d e f,l=[a,b,c,d,e,f]:=by
  match l,h with
  | [],_=>exact .inl rfl
  | [a],_=>exact .inr (.inl ⟨a,rfl⟩)
  | [a,b],_=>exact .inr (.inr (.inl ⟨a,b,rfl⟩))
  | [a,b,c],_=>exact .inr (.inr (.inr (.inl ⟨a,b,c,rfl⟩)))
  | [a,b,c,d],_=>exact .inr (.inr (.inr (.inr (.inl ⟨a,b,c,d,rfl⟩))))
  | [a,b,c,d,e],_=>exact .inr (.inr (.inr (.inr (.inr (.inl ⟨a,b,c,d,e,rfl⟩)))))
  | [a,b,c,d,e,f],_=>exact .inr (.inr (.inr (.inr (.inr (.inr ⟨a,b,c,d,e,f,rfl⟩)))))
  | _ :: _ :: _ :: _ :: _ :: _ :: _ :: _,h=>exact absurd h (by simp)
set_option maxHeartbeats 8000000 in
theorem f96 (l:List Bool) (h:l.length≤6):Fun Tryz.prog tS 112 [.slc 0 0 1 l.length none] [(0,⟨.own 4,bls l⟩)] 1 (.tup []) [(0,⟨.own 4,bls l.reverse⟩)] 1:=by
  rcases six_list h with rfl | ⟨a,rfl⟩ | ⟨a,b,rfl⟩ | ⟨a,b,c,rfl⟩ | ⟨a,b,c,d,rfl⟩ | ⟨a,b,c,d,e,rfl⟩ | ⟨a,b,c,d,e,f,rfl⟩
  all_goals
    refine fun_anyG none cF cF_ok ck112 (Nat.le_of_ble_eq_true rfl) (by decide) ?_
    conv in mkSF _ _=>(reduce;simp only [u8lit,UInt8.reduceOfNat,Int.reduceOfNat,Int.reduceNegSucc])
    rw [exG_mk]
    simp (config:={ maxSteps:=1000000 }) only [bls,reduceCtorEq,Nat.reduceEqDiff,Nat.reduceAdd,Int.reduceLE,Int.reduceSub,Int.reduceNeg,↓reduceIte,BC,↓PC]
    rw [den_loop]
    refine den_unroll cF_ok (callT_point _ _) 5 ?_
    simp (config:={ maxSteps:=1000000 }) only [Nat.reduceBEq,reduceCtorEq,Nat.reduceEqDiff,Nat.reduceAdd,Nat.reduceLeDiff,Nat.reduceLT,Int.reduceToNat,Int.reduceLT,Int.reduceLE,Int.reduceAdd,Int.reduceSub,Int.reduceNeg,evW,baseD,stBlk,touch,clear,untouched,updsW,↓reduceIte,upd,splice,BC,↓PC]
    exact ⟨[(0,0)],by simp [↓reduceIte,BC]⟩
theorem f96n:Fun Tryz.prog tS 112 [.val (.slice none 0 0)] [] 0 (.tup []) [] 0:=by
  refine fun_anyG none cF cF_ok ck112 (Nat.le_of_ble_eq_true rfl) (by decide) ?_
  conv in mkSF _ _=>(reduce;simp only [u8lit,UInt8.reduceOfNat,Int.reduceOfNat,Int.reduceNegSucc])
  rw [exG_mk]
  simp (config:={ maxSteps:=1000000 }) only [reduceCtorEq,Nat.reduceEqDiff,Int.reduceLE,Int.reduceSub,Int.reduceNeg,↓reduceIte,BC,↓PC]
  rw [den_loop]
  refine den_unroll cF_ok (callT_point _ _) 5 ?_
  simp (config:={ maxSteps:=1000000 }) only [reduceCtorEq,Nat.reduceEqDiff,Int.reduceLT,Int.reduceNeg,↓reduceIte,BC,↓PC]
  exact ⟨[],by simp [BC]⟩
theorem bD_get (i h:Nat):∀ c,c≤h→∀ t,t < c→(bD i h c)[t]?=some (bitB i (h - 1 - t))
  | 0,_,t,ht=>by omega
  | c+1,hc,t,ht=>by
    simp only [bD]
    by_cases h1:t < c
    · rw [List.getElem?_append_left (by rw [bD_len];exact h1)]
      exact bD_get i h c (by omega) t h1
    · obtain rfl:t=c:=by omega
      rw [List.getElem?_append_right (by rw [bD_len];omega),bD_len]
      simp
theorem bR_get (i h k:Nat) (hk:k < h):(bD i h h).reverse[k]?=some (bitB i k):=by
  have hl:=bD_len i h h
  rw [List.getElem?_reverse (by rw [hl];exact hk),hl,bD_get i h h (Nat.le_refl _) _ (by omega)]
  congr 2
  omega
end Go.Proofs.YtmhkkalbijbplaaGreatDoor

/- Merkle trees: the inputs of a proof. -/
namespace Go.Proofs.YtmhkkalbijbplaaGreatDoor
open Go Go.Sx
set_option maxRecDepth 100000
set_option linter.unusedVariables false
def prf (X:List UInt8) (k:Nat):List UInt8:=(X.drop (16 * k)).take 16
def shS (m:List UInt8):List UInt8:=(sumS m).take 16
def inK (i:Nat) (d X:List UInt8):Nat→List UInt8
  | 0=>ofM 1 [d]
  | k+1=>if bitB i k=true then ofM 2 [prf X k,shS (inK i d X k)] else ofM 2 [shS (inK i d X k),prf X k]
theorem shS_len (m:List UInt8):(shS m).length=16:=by simp [shS,sumS_len]
theorem enc16 {a:List UInt8} (ha:a.length=16):(encS a).length=18:=by
  have:(encI 16).length=2:=by decide
  simp [encS,ha]
  exact this
theorem leaf_len {d:List UInt8} (hd:d.length=16):(ofM 1 [d]).length=19:=by simp [ofM,enc16 hd]
theorem node_len {a b:List UInt8} (ha:a.length=16) (hb:b.length=16):(ofM 2 [a,b]).length=37:=by simp [ofM,enc16 ha,enc16 hb]
def lenK:Nat→Nat
  | 0=>19
  | _+1=>37
theorem prf_len {X:List UInt8} {h k:Nat} (hX:X.length=16 * h) (hk:k < h):(prf X k).length=16:=by simp [prf,hX];omega
theorem inK_len {i:Nat} {d X:List UInt8} {h:Nat} (hd:d.length=16) (hX:X.length=16 * h):∀ k,k≤h→(inK i d X k).length=lenK k
  | 0,_=>leaf_len hd
  | k+1,hk=>by
    unfold inK
    split
    · exact node_len (prf_len hX (by omega)) (shS_len _)
    · exact node_len (shS_len _) (prf_len hX (by omega))
theorem lenK_le (k:Nat):lenK k≤37:=by cases k <;> simp [lenK]
def gSh:GS
  | [.slc 0 0 1 len _],[(0,⟨.view,cells⟩)]=>match unB cells with
    | some m=>if len=m.length∧m.length≤2 ^ 37 then some (.agg (bys (shS m)),[],1) else none
    | none=>none
  | _,_=>none
theorem gSh_eq {m:List UInt8} {cap:Option Nat} {n:Nat} (hn:m.length=n) (hm:n≤2 ^ 37):gSh [.slc 0 0 1 n cap] [(0,⟨.view,bys m⟩)]=some (.agg (bys (shS m)),[],1):=by
  unfold gSh
  simp only [unB_bytes]
  rw [if_pos ⟨hn.symm,by omega⟩]
theorem gSh_ok:FunS Tryz.prog tH2 107 gSh:=by
  intro a0 m0 r m1 n1 h
  unfold gSh at h
  split at h
  · split at h
    · rename_i m hm
      split at h
      · rename_i hc
        cases h
        obtain ⟨rfl,h2⟩:=hc
        rw [unB_some hm]
        exact ⟨(f82 m h2 _).more tHH,by simp [freshB]⟩
      · cases h
    · cases h
  · cases h
def gLeaf:GS
  | [.agg c],[]=>match unB c with
    | some d=>if d.length=16 then some (.slc 0 0 1 19 none,[(0,⟨.own 5,bys (ofM 1 [d])⟩)],1) else none
    | none=>none
  | _,_=>none
theorem gLeaf_eq {d:List UInt8} (hd:d.length=16):gLeaf [.agg (bys d)] []=some (.slc 0 0 1 19 none,[(0,⟨.own 5,bys (ofM 1 [d])⟩)],1):=by
  unfold gLeaf
  simp only [unB_bytes]
  rw [if_pos hd]
theorem gLeaf_ok {tS:List (Nat × List SV)}:FunS Tryz.prog tS 109 gLeaf:=by
  intro a0 m0 r m1 n1 h
  unfold gLeaf at h
  split at h
  · split at h
    · rename_i d hd
      split at h
      · rename_i hc
        cases h
        have F:=f97 (tS:=tS) d hc
        rw [leaf_len hc] at F
        rw [unB_some hd]
        exact ⟨F,by simp [freshB]⟩
      · cases h
    · cases h
  · cases h
def gNode:GS
  | [.agg c,.agg c'],[]=>match unB c,unB c' with
    | some a,some b=>if a.length=16∧b.length=16 then some (.slc 0 0 1 37 none,[(0,⟨.own 5,bys (ofM 2 [a,b])⟩)],1) else none
    | _,_=>none
  | _,_=>none
theorem gNode_eq {a b:List UInt8} (ha:a.length=16) (hb:b.length=16):gNode [.agg (bys a),.agg (bys b)] []=some (.slc 0 0 1 37 none,[(0,⟨.own 5,bys (ofM 2 [a,b])⟩)],1):=by
  unfold gNode
  simp only [unB_bytes]
  rw [if_pos ⟨ha,hb⟩]
theorem gNode_ok {tS:List (Nat × List SV)}:FunS Tryz.prog tS 111 gNode:=by
  intro a0 m0 r m1 n1 h
  unfold gNode at h
  split at h
  · split at h
    · rename_i a b ha hb
      split at h
      · rename_i hc
        cases h
        have F:=f98 (tS:=tS) a b hc.1 hc.2
        rw [node_len hc.1 hc.2] at F
        rw [unB_some ha,unB_some hb]
        exact ⟨F,by simp [freshB]⟩
      · cases h
    · cases h
  · cases h
def tabMk:List (FuncId × GS):=[(107,gSh),(109,gLeaf),(111,gNode)]
theorem tabMk_ok:∀ x ∈ tabMk,FunS Tryz.prog tH2 x.1 x.2:=by
  intro x hx
  simp only [tabMk,List.mem_cons,List.not_mem_nil,or_false] at hx
  rcases hx with rfl | rfl | rfl
  · exact gSh_ok
  · exact gLeaf_ok
  · exact gNode_ok
def cMk:CallT:=callAnd 123 (callT Tryz.prog tH2) (callAnd 112 (callT Tryz.prog tH2) (callS tabMk cF))
theorem cMk_ok:∀ f a m n K,cMk f a m n K→callT Tryz.prog tH2 f a m n K:=callAnd_ok (callAnd_ok (callS_ok tabMk_ok cF_ok))
def ouC (base last:Nat) (k:Nat):List SV:=(List.range k).map (fun j=>SV.slc (base+j) 0 1 (lenK j) none)++[.slc last 0 1 (lenK k) none]
set_option maxHeartbeats 8000000 in
theorem f81 (h i:Nat) (d X:List UInt8) (hh:h≤6) (h0:0 < h) (hi:i < 2 ^ h) (hd:d.length=16) (hX:X.length=16 * h) :
    Fun Tryz.prog tH2 139 [.int .i64 (P2 h),.int .i64 (i:Int),.agg (bys d),.slc 0 0 16 h none] [(0,⟨.view,bys X⟩)] 1
      (.slc 1 0 1 (h+1) none) [(1,⟨.own 56,ouC 3 2 h⟩),(2,⟨.own 5,bys (inK i d X h)⟩)] (3+h):=by
  refine fun_anyG none cMk cMk_ok ck139 (Nat.le_of_ble_eq_true rfl) (by omega) ?_
  conv in mkSF _ _=>(reduce;simp only [u8lit,UInt8.reduceOfNat,Int.reduceOfNat,Int.reduceNegSucc])
  rw [exG_mk]
  have hip:(i:Int) < P2 h:=by unfold P2;omega
  have c1:¬ (i:Int) < 0:=by omega
  have c2:¬ (i:Int) ≥ P2 h:=by omega
  have hl:(bys d).length=16:=by rw [len_bytes,hd]
  simp (config:={ maxSteps:=1000000 }) only [cMk,tabMk,c1,c2,reduceCtorEq,Nat.reduceEqDiff,Nat.reduceAdd,↓reduceIte,BC,↓PC]
  have F94:=f94 (tS:=tH2) h i hh hi
  simp only [nlS_p h0,nlM_p h0,nlN_p h0] at F94
  refine ⟨[(2,0)],_,_,_,_,_,F94,rfl,⟨⟨_,rfl,rfl,rfl,rfl⟩,trivial⟩,⟨by simp,trivial⟩,⟨by decide,trivial⟩,by simp,⟨fun _=>rfl,fun _=>rfl,trivial⟩,?_⟩
  have hbl:=bD_len i h h
  have hne:((h:Int) != (h:Int))=false:=by simp
  simp (config:={ maxSteps:=1000000 }) only [ren_bls,hne,reduceCtorEq,Nat.reduceEqDiff,Nat.reduceAdd,Nat.reduceSub,↓reduceIte,BC,↓PC]
  have F96:=f96 (tS:=tH2) (bD i h h) (by omega)
  rw [hbl] at F96
  refine ⟨[(3,0)],_,_,_,_,_,F96,rfl,⟨⟨_,rfl,rfl,rfl,(ren_bls _ _).symm⟩,trivial⟩,⟨by simp,trivial⟩,⟨by decide,trivial⟩,by simp,⟨fun _=>rfl,trivial⟩,?_⟩
  have gl:=gLeaf_eq hd
  have td:=List.take_of_length_le (show (bys d).length≤16 by omega)
  simp (config:={ maxSteps:=1000000 }) only [ren_bls,hl,td,↓gl,reduceCtorEq,Nat.reduceEqDiff,Nat.reduceAdd,Nat.reduceSub,↓reduceIte,splice,BC,↓PC]
  rw [den_loop]
  have rX:∀ η,SV.renL η (bys X)=bys X:=fun η=>ren_bytes η X
  have lX:(bys X).length=16 * h:=by rw [len_bytes,hX]
  have hbr:(bD i h h).reverse.length=h:=by rw [List.length_reverse,hbl]
  refine den_inv cMk_ok (σ:=Nat) (fun k=>[(37,.int .i64 (k:Int)),(36,.int .i64 (h:Int)),(35,.slc 0 0 16 h none),(10,.slc 4 0 1 (k+1) none),(9,.ptr 2 0)])
    (fun k=>[(5,⟨.own 5,bys (inK i d X k)⟩),(4,⟨.own 56,ouC 6 5 k⟩),(3,⟨.own 4,bls (bD i h h).reverse⟩),(2,⟨.own 112,[.slc 3 0 1 h none]⟩),(0,⟨.view,bys X⟩)]) (fun k=>6+k)
    (fun k=>k≤h) (fun k=>h - k) 0 ?_ (Nat.zero_le _) ?_
  · exact ⟨[(0,0),(1,0),(2,0),(3,0),(5,0),(4,0)],by simp [inK,ouC,List.range,List.range.loop,lenK,Nat.reduceAdd,rX,ren_bls,Nat.reduceAdd,Nat.reduceEqDiff,Nat.reduceLT,Nat.reduceLeDiff,↓reduceIte,reduceCtorEq,BC],by simp [Nat.reduceAdd,Nat.reduceEqDiff,Nat.reduceLT,Nat.reduceLeDiff,↓reduceIte,BC]⟩
  · intro k hk
    by_cases hkh:k < h
    · have c3:(k:Int) < (h:Int):=by omega
      have c4:(0:Int)≤(k:Int):=by omega
      have gR:(bls (bD i h h).reverse)[k]?=some (.bool (bitB i k)):=by rw [bls,List.getElem?_map,bR_get i h k hkh];rfl
      have pl:=prf_len hX hkh
      have tP:List.take 16 (List.drop (k * 16) (bys X))=bys (prf X k):=by simp [prf,bys,List.map_take,List.map_drop,Nat.mul_comm]
      have bP:k * 16+16≤16 * h:=by omega
      have lP:(bys (prf X k)).length=16:=by rw [len_bytes,pl]
      have ttP:=List.take_of_length_le (show (bys (prf X k)).length≤16 by omega)
      have il:=inK_len (i:=i) hd hX k hk
      have sl:=shS_len (inK i d X k)
      have lS:(bys (shS (inK i d X k))).length=16:=by rw [len_bytes,sl]
      have ttS:=List.take_of_length_le (show (bys (shS (inK i d X k))).length≤16 by omega)
      have gs:=gSh_eq (cap:=none) il (by have:=lenK_le k;omega)
      have tI:List.take (lenK k) (bys (inK i d X k))=bys (inK i d X k):=List.take_of_length_le (by rw [len_bytes,il];omega)
      have lI:(bys (inK i d X k)).length=lenK k:=by rw [len_bytes,il]
      have gn1:=gNode_eq pl sl
      have gn2:=gNode_eq sl pl
      have hin:inK i d X (k+1)=if bitB i k=true then ofM 2 [prf X k,shS (inK i d X k)] else ofM 2 [shS (inK i d X k),prf X k]:=rfl
      generalize hI:inK i d X k=I at *
      generalize hP:prf X k=P at *
      generalize hSe:shS I=S at *
      have hk6:k=0∨k=1∨k=2∨k=3∨k=4∨k=5:=by omega
      cases hbit:bitB i k with
      | false=>
        rw [hbit] at gR hin
        simp only [Bool.false_eq_true,if_false] at hin
        rcases hk6 with rfl | rfl | rfl | rfl | rfl | rfl
        · simp only [lenK] at gs tI lI il
          have tP0:List.take 16 (bys X)=bys P:=by simpa using tP
          have b0:(16:Nat)≤16 * h:=by omega
          have c5:(0:Int) < (h:Int):=by omega
          simp (config:={ maxSteps:=1000000 }) only [c5,gR,tP0,b0,lX,lP,ttP,lS,ttS,↓gs,tI,lI,hbr,len_bls,↓gn2,ouC,List.range,List.range.loop,lenK,Nat.reduceAdd,reduceCtorEq,Nat.reduceEqDiff,Nat.reduceAdd,Nat.reduceSub,Nat.reduceMul,Nat.reduceLT,Int.reduceToNat,Int.reduceLT,Int.reduceLE,Int.reduceAdd,Int.reduceNeg,↓reduceIte,upd,splice,BC,↓PC]
          exact ⟨by omega,by omega,by omega,by omega,1,⟨[(0,0),(1,0),(2,0),(3,0),(10,0),(8,0),(5,0)],by simp [hin,List.range.loop,Nat.reduceAdd,rX,ren_bls,Nat.reduceAdd,Nat.reduceEqDiff,Nat.reduceLT,Nat.reduceLeDiff,↓reduceIte,reduceCtorEq,BC],by simp [Nat.reduceAdd,Nat.reduceEqDiff,Nat.reduceLT,Nat.reduceLeDiff,↓reduceIte,BC]⟩,by omega,by omega⟩
        · simp only [lenK] at gs tI lI il
          have c5:(1:Int) < (h:Int):=by omega
          simp (config:={ maxSteps:=1000000 }) only [c5,gR,tP,bP,lX,lP,ttP,lS,ttS,↓gs,tI,lI,hbr,len_bls,↓gn2,ouC,List.range,List.range.loop,lenK,Nat.reduceAdd,reduceCtorEq,Nat.reduceEqDiff,Nat.reduceAdd,Nat.reduceSub,Nat.reduceMul,Nat.reduceLT,Int.reduceToNat,Int.reduceLT,Int.reduceLE,Int.reduceAdd,Int.reduceNeg,↓reduceIte,upd,splice,BC,↓PC]
          exact ⟨by omega,by omega,by omega,by omega,2,⟨[(0,0),(1,0),(2,0),(3,0),(11,0),(9,0),(6,0),(5,0)],by simp [hin,List.range.loop,Nat.reduceAdd,rX,ren_bls,Nat.reduceAdd,Nat.reduceEqDiff,Nat.reduceLT,Nat.reduceLeDiff,↓reduceIte,reduceCtorEq,BC],by simp [Nat.reduceAdd,Nat.reduceEqDiff,Nat.reduceLT,Nat.reduceLeDiff,↓reduceIte,BC]⟩,by omega,by omega⟩
        · simp only [lenK] at gs tI lI il
          have c5:(2:Int) < (h:Int):=by omega
          simp (config:={ maxSteps:=1000000 }) only [c5,gR,tP,bP,lX,lP,ttP,lS,ttS,↓gs,tI,lI,hbr,len_bls,↓gn2,ouC,List.range,List.range.loop,lenK,Nat.reduceAdd,reduceCtorEq,Nat.reduceEqDiff,Nat.reduceAdd,Nat.reduceSub,Nat.reduceMul,Nat.reduceLT,Int.reduceToNat,Int.reduceLT,Int.reduceLE,Int.reduceAdd,Int.reduceNeg,↓reduceIte,upd,splice,BC,↓PC]
          exact ⟨by omega,by omega,by omega,by omega,3,⟨[(0,0),(1,0),(2,0),(3,0),(12,0),(10,0),(6,0),(7,0),(5,0)],by simp [hin,List.range.loop,Nat.reduceAdd,rX,ren_bls,Nat.reduceAdd,Nat.reduceEqDiff,Nat.reduceLT,Nat.reduceLeDiff,↓reduceIte,reduceCtorEq,BC],by simp [Nat.reduceAdd,Nat.reduceEqDiff,Nat.reduceLT,Nat.reduceLeDiff,↓reduceIte,BC]⟩,by omega,by omega⟩
        · simp only [lenK] at gs tI lI il
          have c5:(3:Int) < (h:Int):=by omega
          simp (config:={ maxSteps:=1000000 }) only [c5,gR,tP,bP,lX,lP,ttP,lS,ttS,↓gs,tI,lI,hbr,len_bls,↓gn2,ouC,List.range,List.range.loop,lenK,Nat.reduceAdd,reduceCtorEq,Nat.reduceEqDiff,Nat.reduceAdd,Nat.reduceSub,Nat.reduceMul,Nat.reduceLT,Int.reduceToNat,Int.reduceLT,Int.reduceLE,Int.reduceAdd,Int.reduceNeg,↓reduceIte,upd,splice,BC,↓PC]
          exact ⟨by omega,by omega,by omega,by omega,4,⟨[(0,0),(1,0),(2,0),(3,0),(13,0),(11,0),(6,0),(7,0),(8,0),(5,0)],by simp [hin,List.range.loop,Nat.reduceAdd,rX,ren_bls,Nat.reduceAdd,Nat.reduceEqDiff,Nat.reduceLT,Nat.reduceLeDiff,↓reduceIte,reduceCtorEq,BC],by simp [Nat.reduceAdd,Nat.reduceEqDiff,Nat.reduceLT,Nat.reduceLeDiff,↓reduceIte,BC]⟩,by omega,by omega⟩
        · simp only [lenK] at gs tI lI il
          have c5:(4:Int) < (h:Int):=by omega
          simp (config:={ maxSteps:=1000000 }) only [c5,gR,tP,bP,lX,lP,ttP,lS,ttS,↓gs,tI,lI,hbr,len_bls,↓gn2,ouC,List.range,List.range.loop,lenK,Nat.reduceAdd,reduceCtorEq,Nat.reduceEqDiff,Nat.reduceAdd,Nat.reduceSub,Nat.reduceMul,Nat.reduceLT,Int.reduceToNat,Int.reduceLT,Int.reduceLE,Int.reduceAdd,Int.reduceNeg,↓reduceIte,upd,splice,BC,↓PC]
          exact ⟨by omega,by omega,by omega,by omega,5,⟨[(0,0),(1,0),(2,0),(3,0),(14,0),(12,0),(6,0),(7,0),(8,0),(9,0),(5,0)],by simp [hin,List.range.loop,Nat.reduceAdd,rX,ren_bls,Nat.reduceAdd,Nat.reduceEqDiff,Nat.reduceLT,Nat.reduceLeDiff,↓reduceIte,reduceCtorEq,BC],by simp [Nat.reduceAdd,Nat.reduceEqDiff,Nat.reduceLT,Nat.reduceLeDiff,↓reduceIte,BC]⟩,by omega,by omega⟩
        · simp only [lenK] at gs tI lI il
          have c5:(5:Int) < (h:Int):=by omega
          simp (config:={ maxSteps:=1000000 }) only [c5,gR,tP,bP,lX,lP,ttP,lS,ttS,↓gs,tI,lI,hbr,len_bls,↓gn2,ouC,List.range,List.range.loop,lenK,Nat.reduceAdd,reduceCtorEq,Nat.reduceEqDiff,Nat.reduceAdd,Nat.reduceSub,Nat.reduceMul,Nat.reduceLT,Int.reduceToNat,Int.reduceLT,Int.reduceLE,Int.reduceAdd,Int.reduceNeg,↓reduceIte,upd,splice,BC,↓PC]
          exact ⟨by omega,by omega,by omega,by omega,6,⟨[(0,0),(1,0),(2,0),(3,0),(15,0),(13,0),(6,0),(7,0),(8,0),(9,0),(10,0),(5,0)],by simp [hin,List.range.loop,Nat.reduceAdd,rX,ren_bls,Nat.reduceAdd,Nat.reduceEqDiff,Nat.reduceLT,Nat.reduceLeDiff,↓reduceIte,reduceCtorEq,BC],by simp [Nat.reduceAdd,Nat.reduceEqDiff,Nat.reduceLT,Nat.reduceLeDiff,↓reduceIte,BC]⟩,by omega,by omega⟩
      | true=>
        rw [hbit] at gR hin
        simp only [if_true] at hin
        rcases hk6 with rfl | rfl | rfl | rfl | rfl | rfl
        · simp only [lenK] at gs tI lI il
          have tP0:List.take 16 (bys X)=bys P:=by simpa using tP
          have b0:(16:Nat)≤16 * h:=by omega
          have c5:(0:Int) < (h:Int):=by omega
          simp (config:={ maxSteps:=1000000 }) only [c5,gR,tP0,b0,lX,lP,ttP,lS,ttS,↓gs,tI,lI,hbr,len_bls,↓gn1,ouC,List.range,List.range.loop,lenK,Nat.reduceAdd,reduceCtorEq,Nat.reduceEqDiff,Nat.reduceAdd,Nat.reduceSub,Nat.reduceMul,Nat.reduceLT,Int.reduceToNat,Int.reduceLT,Int.reduceLE,Int.reduceAdd,Int.reduceNeg,↓reduceIte,upd,splice,BC,↓PC]
          exact ⟨by omega,by omega,by omega,by omega,1,⟨[(0,0),(1,0),(2,0),(3,0),(10,0),(8,0),(5,0)],by simp [hin,List.range.loop,Nat.reduceAdd,rX,ren_bls,Nat.reduceAdd,Nat.reduceEqDiff,Nat.reduceLT,Nat.reduceLeDiff,↓reduceIte,reduceCtorEq,BC],by simp [Nat.reduceAdd,Nat.reduceEqDiff,Nat.reduceLT,Nat.reduceLeDiff,↓reduceIte,BC]⟩,by omega,by omega⟩
        · simp only [lenK] at gs tI lI il
          have c5:(1:Int) < (h:Int):=by omega
          simp (config:={ maxSteps:=1000000 }) only [c5,gR,tP,bP,lX,lP,ttP,lS,ttS,↓gs,tI,lI,hbr,len_bls,↓gn1,ouC,List.range,List.range.loop,lenK,Nat.reduceAdd,reduceCtorEq,Nat.reduceEqDiff,Nat.reduceAdd,Nat.reduceSub,Nat.reduceMul,Nat.reduceLT,Int.reduceToNat,Int.reduceLT,Int.reduceLE,Int.reduceAdd,Int.reduceNeg,↓reduceIte,upd,splice,BC,↓PC]
          exact ⟨by omega,by omega,by omega,by omega,2,⟨[(0,0),(1,0),(2,0),(3,0),(11,0),(9,0),(6,0),(5,0)],by simp [hin,List.range.loop,Nat.reduceAdd,rX,ren_bls,Nat.reduceAdd,Nat.reduceEqDiff,Nat.reduceLT,Nat.reduceLeDiff,↓reduceIte,reduceCtorEq,BC],by simp [Nat.reduceAdd,Nat.reduceEqDiff,Nat.reduceLT,Nat.reduceLeDiff,↓reduceIte,BC]⟩,by omega,by omega⟩
        · simp only [lenK] at gs tI lI il
          have c5:(2:Int) < (h:Int):=by omega
          simp (config:={ maxSteps:=1000000 }) only [c5,gR,tP,bP,lX,lP,ttP,lS,ttS,↓gs,tI,lI,hbr,len_bls,↓gn1,ouC,List.range,List.range.loop,lenK,Nat.reduceAdd,reduceCtorEq,Nat.reduceEqDiff,Nat.reduceAdd,Nat.reduceSub,Nat.reduceMul,Nat.reduceLT,Int.reduceToNat,Int.reduceLT,Int.reduceLE,Int.reduceAdd,Int.reduceNeg,↓reduceIte,upd,splice,BC,↓PC]
          exact ⟨by omega,by omega,by omega,by omega,3,⟨[(0,0),(1,0),(2,0),(3,0),(12,0),(10,0),(6,0),(7,0),(5,0)],by simp [hin,List.range.loop,Nat.reduceAdd,rX,ren_bls,Nat.reduceAdd,Nat.reduceEqDiff,Nat.reduceLT,Nat.reduceLeDiff,↓reduceIte,reduceCtorEq,BC],by simp [Nat.reduceAdd,Nat.reduceEqDiff,Nat.reduceLT,Nat.reduceLeDiff,↓reduceIte,BC]⟩,by omega,by omega⟩
        · simp only [lenK] at gs tI lI il
          have c5:(3:Int) < (h:Int):=by omega
          simp (config:={ maxSteps:=1000000 }) only [c5,gR,tP,bP,lX,lP,ttP,lS,ttS,↓gs,tI,lI,hbr,len_bls,↓gn1,ouC,List.range,List.range.loop,lenK,Nat.reduceAdd,reduceCtorEq,Nat.reduceEqDiff,Nat.reduceAdd,Nat.reduceSub,Nat.reduceMul,Nat.reduceLT,Int.reduceToNat,Int.reduceLT,Int.reduceLE,Int.reduceAdd,Int.reduceNeg,↓reduceIte,upd,splice,BC,↓PC]
          exact ⟨by omega,by omega,by omega,by omega,4,⟨[(0,0),(1,0),(2,0),(3,0),(13,0),(11,0),(6,0),(7,0),(8,0),(5,0)],by simp [hin,List.range.loop,Nat.reduceAdd,rX,ren_bls,Nat.reduceAdd,Nat.reduceEqDiff,Nat.reduceLT,Nat.reduceLeDiff,↓reduceIte,reduceCtorEq,BC],by simp [Nat.reduceAdd,Nat.reduceEqDiff,Nat.reduceLT,Nat.reduceLeDiff,↓reduceIte,BC]⟩,by omega,by omega⟩
        · simp only [lenK] at gs tI lI il
          have c5:(4:Int) < (h:Int):=by omega
          simp (config:={ maxSteps:=1000000 }) only [c5,gR,tP,bP,lX,lP,ttP,lS,ttS,↓gs,tI,lI,hbr,len_bls,↓gn1,ouC,List.range,List.range.loop,lenK,Nat.reduceAdd,reduceCtorEq,Nat.reduceEqDiff,Nat.reduceAdd,Nat.reduceSub,Nat.reduceMul,Nat.reduceLT,Int.reduceToNat,Int.reduceLT,Int.reduceLE,Int.reduceAdd,Int.reduceNeg,↓reduceIte,upd,splice,BC,↓PC]
          exact ⟨by omega,by omega,by omega,by omega,5,⟨[(0,0),(1,0),(2,0),(3,0),(14,0),(12,0),(6,0),(7,0),(8,0),(9,0),(5,0)],by simp [hin,List.range.loop,Nat.reduceAdd,rX,ren_bls,Nat.reduceAdd,Nat.reduceEqDiff,Nat.reduceLT,Nat.reduceLeDiff,↓reduceIte,reduceCtorEq,BC],by simp [Nat.reduceAdd,Nat.reduceEqDiff,Nat.reduceLT,Nat.reduceLeDiff,↓reduceIte,BC]⟩,by omega,by omega⟩
        · simp only [lenK] at gs tI lI il
          have c5:(5:Int) < (h:Int):=by omega
          simp (config:={ maxSteps:=1000000 }) only [c5,gR,tP,bP,lX,lP,ttP,lS,ttS,↓gs,tI,lI,hbr,len_bls,↓gn1,ouC,List.range,List.range.loop,lenK,Nat.reduceAdd,reduceCtorEq,Nat.reduceEqDiff,Nat.reduceAdd,Nat.reduceSub,Nat.reduceMul,Nat.reduceLT,Int.reduceToNat,Int.reduceLT,Int.reduceLE,Int.reduceAdd,Int.reduceNeg,↓reduceIte,upd,splice,BC,↓PC]
          exact ⟨by omega,by omega,by omega,by omega,6,⟨[(0,0),(1,0),(2,0),(3,0),(15,0),(13,0),(6,0),(7,0),(8,0),(9,0),(10,0),(5,0)],by simp [hin,List.range.loop,Nat.reduceAdd,rX,ren_bls,Nat.reduceAdd,Nat.reduceEqDiff,Nat.reduceLT,Nat.reduceLeDiff,↓reduceIte,reduceCtorEq,BC],by simp [Nat.reduceAdd,Nat.reduceEqDiff,Nat.reduceLT,Nat.reduceLeDiff,↓reduceIte,BC]⟩,by omega,by omega⟩
    · obtain rfl:k=h:=by omega
      have c3:decide ((k:Int) < (k:Int))=false:=by simp
      have hk6:k=1∨k=2∨k=3∨k=4∨k=5∨k=6:=by omega
      simp (config:={ maxSteps:=1000000 }) only [c3,Nat.reduceEqDiff,↓reduceIte,BC,↓PC]
      rcases hk6 with rfl | rfl | rfl | rfl | rfl | rfl
      · exact ⟨[(0,0),(4,0),(5,0),(6,0)],by simp [ouC,List.range,List.range.loop,lenK,Nat.reduceAdd,Nat.reduceAdd,Nat.reduceEqDiff,Nat.reduceLT,Nat.reduceLeDiff,↓reduceIte,BC],by simp [Nat.reduceAdd,Nat.reduceLT,Nat.reduceLeDiff,BB]⟩
      · exact ⟨[(0,0),(4,0),(5,0),(6,0),(7,0)],by simp [ouC,List.range,List.range.loop,lenK,Nat.reduceAdd,Nat.reduceAdd,Nat.reduceEqDiff,Nat.reduceLT,Nat.reduceLeDiff,↓reduceIte,BC],by simp [Nat.reduceAdd,Nat.reduceLT,Nat.reduceLeDiff,BB]⟩
      · exact ⟨[(0,0),(4,0),(5,0),(6,0),(7,0),(8,0)],by simp [ouC,List.range,List.range.loop,lenK,Nat.reduceAdd,Nat.reduceAdd,Nat.reduceEqDiff,Nat.reduceLT,Nat.reduceLeDiff,↓reduceIte,BC],by simp [Nat.reduceAdd,Nat.reduceLT,Nat.reduceLeDiff,BB]⟩
      · exact ⟨[(0,0),(4,0),(5,0),(6,0),(7,0),(8,0),(9,0)],by simp [ouC,List.range,List.range.loop,lenK,Nat.reduceAdd,Nat.reduceAdd,Nat.reduceEqDiff,Nat.reduceLT,Nat.reduceLeDiff,↓reduceIte,BC],by simp [Nat.reduceAdd,Nat.reduceLT,Nat.reduceLeDiff,BB]⟩
      · exact ⟨[(0,0),(4,0),(5,0),(6,0),(7,0),(8,0),(9,0),(10,0)],by simp [ouC,List.range,List.range.loop,lenK,Nat.reduceAdd,Nat.reduceAdd,Nat.reduceEqDiff,Nat.reduceLT,Nat.reduceLeDiff,↓reduceIte,BC],by simp [Nat.reduceAdd,Nat.reduceLT,Nat.reduceLeDiff,BB]⟩
      · exact ⟨[(0,0),(4,0),(5,0),(6,0),(7,0),(8,0),(9,0),(10,0),(11,0)],by simp [ouC,List.range,List.range.loop,lenK,Nat.reduceAdd,Nat.reduceAdd,Nat.reduceEqDiff,Nat.reduceLT,Nat.reduceLeDiff,↓reduceIte,BC],by simp [Nat.reduceAdd,Nat.reduceLT,Nat.reduceLeDiff,BB]⟩
end Go.Proofs.YtmhkkalbijbplaaGreatDoor

/- Merkle trees: the check of a proof. -/
namespace Go.Proofs.YtmhkkalbijbplaaGreatDoor
open Go Go.Sx
set_option maxRecDepth 100000
set_option linter.unusedVariables false
theorem eqPub {a b:List UInt8} (ha:a.length=16) (hb:b.length=16) :
    eqPat [.i .u8,.i .u8,.i .u8,.i .u8,.i .u8,.i .u8,.i .u8,.i .u8,.i .u8,.i .u8,.i .u8,.i .u8,.i .u8,.i .u8,.i .u8,.i .u8] (bys a) (bys b)=some (a == b):=by
  have h1:=eqPat_bys a b [] [] [] true (by rw [ha,hb]) rfl
  rw [ha] at h1
  simp only [List.append_nil,Bool.and_true] at h1
  exact h1
set_option maxHeartbeats 8000000 in
theorem f81z (d:List UInt8) (hd:d.length=16) :
    Fun Tryz.prog tH2 139 [.int .i64 (P2 0),.int .i64 0,.agg (bys d),.val (.slice none 0 0)] [] 0
      (.slc 0 0 1 1 none) [(0,⟨.own 56,[.slc 1 0 1 19 none]⟩),(1,⟨.own 5,bys (ofM 1 [d])⟩)] 2:=by
  refine fun_anyG none cMk cMk_ok ck139 (Nat.le_of_ble_eq_true rfl) (by decide) ?_
  conv in mkSF _ _=>(reduce;simp only [u8lit,UInt8.reduceOfNat,Int.reduceOfNat,Int.reduceNegSucc])
  rw [exG_mk]
  have c2:decide ((0:Int) ≥ P2 0)=false:=by decide
  have hl:(bys d).length=16:=by rw [len_bytes,hd]
  simp (config:={ maxSteps:=1000000 }) only [cMk,tabMk,c2,reduceCtorEq,Nat.reduceEqDiff,Nat.reduceAdd,Int.reduceLT,↓reduceIte,BC,↓PC]
  have F94:=f94 (tS:=tH2) 0 0 (by decide) (by decide)
  simp only [nlS_z (Eq.refl 0),nlM_z (Eq.refl 0),nlN_z (Eq.refl 0)] at F94
  refine ⟨[(1,0)],_,_,_,_,_,F94,rfl,⟨⟨_,rfl,rfl,rfl,rfl⟩,trivial⟩,⟨by simp,trivial⟩,⟨by decide,trivial⟩,by simp,⟨fun _=>rfl,trivial⟩,?_⟩
  simp (config:={ maxSteps:=1000000 }) only [Int.reduceBNe,reduceCtorEq,Nat.reduceEqDiff,Nat.reduceSub,↓reduceIte,BC,↓PC]
  refine ⟨[],_,_,_,_,_,f96n,rfl,trivial,trivial,trivial,by simp,trivial,?_⟩
  have gl:=gLeaf_eq hd
  have td:=List.take_of_length_le (show (bys d).length≤16 by omega)
  simp (config:={ maxSteps:=1000000 }) only [hl,td,↓gl,reduceCtorEq,Nat.reduceEqDiff,Nat.reduceAdd,↓reduceIte,splice,BC,↓PC]
  rw [den_loop]
  refine den_unroll cMk_ok (callT_point _ _) 5 ?_
  simp (config:={ maxSteps:=1000000 }) only [Nat.reduceEqDiff,Int.reduceLT,↓reduceIte,BC,↓PC]
  exact ⟨[(3,0),(2,0)],by simp [Nat.reduceAdd,Nat.reduceLeDiff,↓reduceIte,BC]⟩
section
variable {T:List (Nat × List SV)} {call:CallT} {fr0:Fr} {m0:Mem} {r:List Opr} {done:List Dn} {n:Nat} {K:List Dn→Nat→Prop} {d:Option Nat} {op:SOp} {ks p h:List Nat} {g:Nat} {b:Bool}
theorem ev_0:evA T call fr0 m0 [] done n K=K done n:=(rfl)
theorem ev_n:evA T call fr0 m0 (⟨d,op,none,ks,p,h⟩ :: r) done n K =
    evO T call (frD (pickD done p) (dels fr0 h)) (views (memD (pickD done p) m0)) n (fun v m' n'=>n≤n'∧evA T call fr0 m0 r (done++[⟨d,v,newer n m',n,n'⟩]) n' K) op:=(rfl)
theorem ev_g:evA T call fr0 m0 (⟨d,op,some (g,b),ks,p,h⟩ :: r) done n K=(match get (frD (pickD done p) (dels fr0 h)) g with
    | .bool t=>gd t b (evO T call (frD (pickD done p) (dels fr0 h)) (views (memD (pickD done p) m0)) n (fun v m' n'=>n≤n'∧evA T call fr0 m0 r (done++[⟨d,v,newer n m',n,n'⟩]) n' K) op)
        (evA T call fr0 m0 r (done++[⟨d,.val undef,[],n,n⟩]) n K)
    | .val (.tuple _)=>evA T call fr0 m0 r (done++[⟨d,.val undef,[],n,n⟩]) n K
    | _=>False):=(rfl)
end
theorem renL_map (η:Nat→Nat × Nat) {α:Type} (f:α→SV):∀ l:List α,SV.renL η (l.map f)=l.map (fun x=>(f x).ren η)
  | []=>by simp only [List.map_nil,SV.renL]
  | x :: l=>by simp only [List.map_cons,SV.renL,renL_map η f l]
theorem ren_ouC {η:Nat→Nat × Nat} {b b' l l' k:Nat} (h1:∀ j,j < k→η (b+j)=(b'+j,0)) (h2:η l=(l',0)):SV.renL η (ouC b l k)=ouC b' l' k:=by
  have h3:∀ a c:List SV,SV.renL η (a++c)=SV.renL η a++SV.renL η c:=by
    intro a c
    induction a with
    | nil=>simp only [List.nil_append,SV.renL]
    | cons x a ih=>simp only [List.cons_append,SV.renL,ih]
  unfold ouC
  rw [h3,renL_map]
  congr 1
  · apply List.map_congr_left
    intro j hj
    simp only [SV.ren,h1 j (List.mem_range.1 hj),Nat.add_zero]
  · simp only [SV.renL,SV.ren,h2,Nat.add_zero]
theorem ouC_len (b l k:Nat):(ouC b l k).length=k+1:=by simp [ouC]
theorem ouC_last (b l k:Nat):(ouC b l k)[k]?=some (.slc l 0 1 (lenK k) none):=by
  unfold ouC
  rw [List.getElem?_append_right (by simp)]
  simp
def cVr:CallT:=callAnd 139 (callT Tryz.prog tH2) (callS tabMk cF)
theorem cVr_ok:∀ f a m n K,cVr f a m n K→callT Tryz.prog tH2 f a m n K:=callAnd_ok (callS_ok tabMk_ok cF_ok)
set_option maxHeartbeats 8000000 in
theorem f64z (p d:List UInt8) (hp:p.length=16) (hd:d.length=16) :
    Fun Tryz.prog tH2 102 [.agg (bys p),.int .i64 (P2 0),.int .i64 0,.agg (bys d),.val (.slice none 0 0)] [] 0 (.bool (shS (ofM 1 [d]) == p)) [] 0:=by
  refine fun_anyG none cVr cVr_ok ck102 (Nat.le_of_ble_eq_true rfl) (by decide) ?_
  conv in mkSF _ _=>(reduce;simp only [u8lit,UInt8.reduceOfNat,Int.reduceOfNat,Int.reduceNegSucc])
  rw [exG_mk]
  have hl:(bys d).length=16:=by rw [len_bytes,hd]
  have lp:(bys p).length=16:=by rw [len_bytes,hp]
  have tp:=take16 hp
  have td:=take16 hd
  simp (config:={ maxSteps:=1000000 }) only [cVr,tabMk,hl,td,reduceCtorEq,Nat.reduceEqDiff,Nat.reduceAdd,↓reduceIte,BC,↓PC]
  have F:=f81z d hd
  refine ⟨[],_,_,_,_,_,F,?_,trivial,trivial,trivial,by simp,⟨fun _=>rfl,fun _=>rfl,trivial⟩,?_⟩
  · simp only [SV.renL,SV.ren,ren_bytes]
  have il:=leaf_len hd
  have gs:=gSh_eq (cap:=none) il (by omega)
  have sl:=shS_len (ofM 1 [d])
  have lS:(bys (shS (ofM 1 [d]))).length=16:=by rw [len_bytes,sl]
  have tI:List.take 19 (bys (ofM 1 [d]))=bys (ofM 1 [d]):=List.take_of_length_le (by rw [len_bytes,il];omega)
  have lI:(bys (ofM 1 [d])).length=19:=by rw [len_bytes,il]
  have eq:=eqPub sl hp
  simp (config:={ maxSteps:=1000000 }) only [Nat.reduceEqDiff,Nat.reduceAdd,↓reduceIte,BC,↓PC]
  iterate 3 (rw [ev_n];simp (config:={ maxSteps:=1000000 }) only [Nat.reduceEqDiff,Nat.reduceLT,↓reduceIte,BC,↓PC])
  iterate 8 (rw [ev_g];simp (config:={ maxSteps:=1000000 }) only [lp,tp,lI,tI,↓gs,reduceCtorEq,Nat.reduceEqDiff,Nat.reduceSub,Nat.reduceLT,Int.reduceToNat,Int.reduceLT,Int.reduceLE,Int.reduceSub,Int.reduceNeg,↓reduceIte,BC,↓PC])
  rw [ev_0]
  simp (config:={ maxSteps:=1000000 }) only [eq,reduceCtorEq,Nat.reduceEqDiff,↓reduceIte,BC,↓PC]
  exact ⟨[],by simp [BC]⟩
set_option maxHeartbeats 8000000 in
theorem f64 (h i:Nat) (p d X:List UInt8) (hp:p.length=16) (hh:h≤6) (h0:0 < h) (hi:i < 2 ^ h) (hd:d.length=16) (hX:X.length=16 * h) :
    Fun Tryz.prog tH2 102 [.agg (bys p),.int .i64 (P2 h),.int .i64 (i:Int),.agg (bys d),.slc 0 0 16 h none] [(0,⟨.view,bys X⟩)] 1 (.bool (shS (inK i d X h) == p)) [] 1:=by
  refine fun_anyG none cVr cVr_ok ck102 (Nat.le_of_ble_eq_true rfl) (by decide) ?_
  conv in mkSF _ _=>(reduce;simp only [u8lit,UInt8.reduceOfNat,Int.reduceOfNat,Int.reduceNegSucc])
  rw [exG_mk]
  have hl:(bys d).length=16:=by rw [len_bytes,hd]
  have lp:(bys p).length=16:=by rw [len_bytes,hp]
  have tp:=take16 hp
  have td:=take16 hd
  simp (config:={ maxSteps:=1000000 }) only [cVr,tabMk,hl,td,reduceCtorEq,Nat.reduceEqDiff,Nat.reduceAdd,↓reduceIte,BC,↓PC]
  have F:=f81 h i d X hh h0 hi hd hX
  refine ⟨[(0,0)],_,_,_,_,_,F,?_,⟨⟨_,rfl,?_,?_⟩,trivial⟩,⟨by simp,trivial⟩,⟨by decide,trivial⟩,by simp,⟨fun _=>rfl,fun _=>rfl,trivial⟩,?_⟩
  · simp only [SV.renL,SV.ren,ren_bytes,eta,List.getElem?_cons_zero,Option.getD_some]
  · exact Nat.le_of_eq (Nat.zero_add _)
  · simp only [eta,BB]
  have il:=inK_len (i:=i) hd hX h (Nat.le_refl _)
  have lk:lenK h=37:=by obtain ⟨k,rfl⟩:∃ k,h=k+1:=⟨h - 1,by omega⟩;rfl
  rw [lk] at il
  have gs:=gSh_eq (cap:=none) il (by omega)
  have sl:=shS_len (inK i d X h)
  have tI:List.take 37 (bys (inK i d X h))=bys (inK i d X h):=List.take_of_length_le (by rw [len_bytes,il];omega)
  have lI:(bys (inK i d X h)).length=37:=by rw [len_bytes,il]
  have lS:(bys (shS (inK i d X h))).length=16:=by rw [len_bytes,sl]
  have eq:=eqPub sl hp
  have rO:SV.renL (eta [(0,0)] 3) (ouC 3 2 h)=ouC 5 4 h:=ren_ouC (fun j _=>by unfold eta;rw [show 3+j=(j+2)+1 by omega];simp;omega) rfl
  have gO:=ouC_last 5 4 h
  rw [lk] at gO
  have lO:=ouC_len 5 4 h
  have hS:IntKind.i64.wrap (((h+1:Nat):Int) - 1)=(h:Int):=by rw [wrap64_eq (by omega) (by omega)];omega
  have hle:(0:Int)≤(h:Int):=by omega
  generalize hI:inK i d X h=I at *
  generalize hOe:ouC 5 4 h=O at *
  simp (config:={ maxSteps:=1000000 }) only [rO,Nat.reduceEqDiff,Nat.reduceAdd,Nat.reduceSub,↓reduceIte,BC,↓PC]
  iterate 3 (rw [ev_n];simp (config:={ maxSteps:=1000000 }) only [lO,Nat.reduceEqDiff,↓reduceIte,BC,↓PC])
  iterate 8 (rw [ev_g];simp (config:={ maxSteps:=1000000 }) only [lp,tp,lI,tI,↓gs,gO,lO,hS,hle,Nat.reduceEqDiff,Nat.reduceSub,↓reduceIte,BC,↓PC])
  rw [ev_0]
  simp (config:={ maxSteps:=1000000 }) only [eq,reduceCtorEq,Nat.reduceEqDiff,↓reduceIte,BC,↓PC]
  exact ⟨by omega,by omega,by omega,by omega,[(0,0)],by simp [BC]⟩
end Go.Proofs.YtmhkkalbijbplaaGreatDoor

/- Merkle trees: the reference's inputs of a proof. -/
namespace Go.Proofs.YtmhkkalbijbplaaGreatDoor
open Go Go.Sx
set_option maxRecDepth 100000
set_option linter.unusedVariables false
theorem bitB_eq (i t:Nat):bitB i t=i.testBit t:=(Nat.testBit_eq_decide_div_mod_eq).symm
theorem bit_low {i h:Nat} (hi:i < 2 ^ h):bitB i h=false:=by rw [bitB_eq];exact Nat.testBit_lt_two_pow hi
theorem bit_high {i h:Nat} (h1:2 ^ h≤i) (h2:i < 2 ^ (h+1)):bitB i h=true:=by
  rw [bitB_eq,show i=2 ^ h+(i - 2 ^ h) by omega,Nat.testBit_two_pow_add_eq,Nat.testBit_lt_two_pow (by rw [Nat.pow_succ] at h2;omega)]
  rfl
theorem bit_rest {i h j:Nat} (h1:2 ^ h≤i) (hj:j < h):bitB (i - 2 ^ h) j=bitB i j:=by
  rw [bitB_eq,bitB_eq,show i.testBit j=(2 ^ h+(i - 2 ^ h)).testBit j by rw [show 2 ^ h+(i - 2 ^ h)=i by omega],Nat.testBit_two_pow_add_gt hj]
theorem inK_congr {i i':Nat} {d X X':List UInt8}:∀ h,(∀ j,j < h→bitB i j=bitB i' j)→(∀ j,j < h→prf X j=prf X' j)→inK i d X h=inK i' d X' h
  | 0,_,_=>rfl
  | h+1,hb,hp=>by
    unfold inK
    rw [hb h (by omega),hp h (by omega),inK_congr h (fun j hj=>hb j (by omega)) (fun j hj=>hp j (by omega))]
theorem prf_take {X:List UInt8} {h j:Nat} (hj:j < h):prf (X.take (16 * h)) j=prf X j:=by
  unfold prf
  rw [List.drop_take,List.take_take,Nat.min_eq_left (by omega)]
def gShN:GS
  | [.slc 0 0 1 len none],[(0,⟨.view,cells⟩)]=>match unB cells with
    | some m=>if len=m.length∧m.length≤2 ^ 37 then some (.agg (bys (shS m)),[],1) else none
    | none=>none
  | _,_=>none
theorem gShN_eq {m:List UInt8} {n:Nat} (hn:m.length=n) (hm:n≤2 ^ 37):gShN [.slc 0 0 1 n none] [(0,⟨.view,bys m⟩)]=some (.agg (bys (shS m)),[],1):=by
  unfold gShN
  simp only [unB_bytes]
  rw [if_pos ⟨hn.symm,by omega⟩]
theorem view_take (X:List UInt8) (a:Nat) (η:Nat→Nat × Nat):SV.renL η (bys (X.take a))=List.take (bys (X.take a)).length (List.drop 0 (bys X)):=by
  rw [ren_bytes,len_bytes,List.drop_zero,List.length_take]
  simp only [bys,List.map_take]
  rcases Nat.le_total a X.length with h | h
  · rw [Nat.min_eq_left h]
  · rw [Nat.min_eq_right h,List.take_of_length_le (by simpa using h),List.take_of_length_le (by simp)]
theorem gSh55:FunS Tryz.prog tH2 116 gShN:=by
  intro a0 m0 r m1 n1 h
  unfold gShN at h
  split at h
  · split at h
    · rename_i m hm
      split at h
      · rename_i hc
        cases h
        obtain ⟨rfl,h2⟩:=hc
        rw [unB_some hm]
        exact ⟨f55 m h2 none (fun c hc=>by cases hc),by simp [freshB]⟩
      · cases h
    · cases h
  · cases h
theorem okT_2 {tag:Int} {a b:List UInt8} (ha:a.length≤2 ^ 30) (hb:b.length≤2 ^ 30):okT tag [a,b]:=by
  refine ⟨fun p hp=>?_,?_,by simp⟩
  · simp only [List.mem_cons,List.not_mem_nil,or_false] at hp
    rcases hp with rfl | rfl <;> omega
  · have h1:=encI_len (a.length:Int)
    have h2:=encI_len (b.length:Int)
    simp [ofM,encS]
    omega
theorem gIn1 {d:List UInt8} (hd:d.length=16):gIn [.int .i64 1,.slc 0 0 1 1 none] [(0,⟨.view,[.str d]⟩)]=some (.slc 1 0 1 19 none,[(1,⟨.own 5,bys (ofM 1 [d])⟩)],2):=by
  have h1:okT 1 [d]:=okT_1' (by omega)
  unfold gIn
  simp only [unStr,capB]
  rw [if_pos ⟨rfl,h1⟩,leaf_len hd]
theorem gIn2 {a b:List UInt8} (ha:a.length=16) (hb:b.length=16):gIn [.int .i64 2,.slc 0 0 1 2 none] [(0,⟨.view,[.str a,.str b]⟩)]=some (.slc 1 0 1 37 none,[(1,⟨.own 5,bys (ofM 2 [a,b])⟩)],2):=by
  have h1:okT 2 [a,b]:=okT_2 (by omega) (by omega)
  unfold gIn
  simp only [unStr,capB]
  rw [if_pos ⟨rfl,h1⟩,node_len ha hb]
def tabMg:List (FuncId × GS):=[(116,gShN),(117,gIn),(47,gText)]
theorem tabMg_ok:∀ x ∈ tabMg,FunS Tryz.prog tH2 x.1 x.2:=by
  intro x hx
  simp only [tabMg,List.mem_cons,List.not_mem_nil,or_false] at hx
  rcases hx with rfl | rfl | rfl
  · exact gSh55
  · exact gIn_ok
  · exact gText_ok
theorem cX_ok:∀ f a m n K,callX ⟨[(78,gSpl)],[]⟩ f a m n K→callT Tryz.prog tH2 f a m n K:=callX_ok (gSpl_of f103)
def cMg:CallT:=callAnd 142 (callT Tryz.prog tH2) (callS tabMg (callX ⟨[(78,gSpl)],[]⟩))
theorem cMg_ok:∀ f a m n K,cMg f a m n K→callT Tryz.prog tH2 f a m n K:=callAnd_ok (callS_ok tabMg_ok cX_ok)
def Inp (h:Nat):Prop:=∀ (i:Nat) (d X:List UInt8),i < 2 ^ h→d.length=16→X.length=16 * h →
  Fun Tryz.prog tH2 142 [.int .i64 (P2 h),.int .i64 (i:Int),.agg (bys d),.slc 0 0 16 h none] [(0,⟨.view,bys X⟩)] 1
    (.tup [.slc 1 0 1 (h+1) none,.bool true]) [(1,⟨.own 56,ouC 3 2 h⟩),(2,⟨.own 5,bys (inK i d X h)⟩)] (3+h)
set_option maxHeartbeats 8000000 in
theorem f84n (d:List UInt8) (hd:d.length=16) :
    Fun Tryz.prog tH2 142 [.int .i64 1,.int .i64 0,.agg (bys d),.val (.slice none 0 0)] [] 0
      (.tup [.slc 0 0 1 1 none,.bool true]) [(0,⟨.own 56,[.slc 1 0 1 19 none]⟩),(1,⟨.own 5,bys (ofM 1 [d])⟩)] 2:=by
  refine fun_anyG none cMg cMg_ok ck142 (Nat.le_of_ble_eq_true rfl) (by decide) ?_
  conv in mkSF _ _=>(reduce;simp only [u8lit,UInt8.reduceOfNat,Int.reduceOfNat,Int.reduceNegSucc])
  rw [exG_mk]
  have hl:(bys d).length=16:=by rw [len_bytes,hd]
  have td:=take16 hd
  have gt:=gText_eq hd
  have gi:=gIn1 hd
  simp (config:={ maxSteps:=1000000 }) only [cMg,tabMg,hl,td,↓gt,↓gi,Int.reduceGE,reduceCtorEq,Nat.reduceEqDiff,Nat.reduceAdd,Nat.reduceSub,Nat.reduceLT,Int.reduceLT,↓reduceIte,splice,BC,↓PC]
  exact ⟨[(3,0),(2,0)],by simp [Nat.reduceAdd,Nat.reduceLeDiff,↓reduceIte,BC]⟩
set_option maxHeartbeats 8000000 in
theorem f84e:Inp 0:=by
  intro i d X hi hd hX
  obtain rfl:i=0:=by simpa using hi
  obtain rfl:X=[]:=List.length_eq_zero_iff.1 hX
  show Fun Tryz.prog tH2 142 [.int .i64 1,.int .i64 0,.agg (bys d),.slc 0 0 16 0 none] [(0,⟨.view,[]⟩)] 1
    (.tup [.slc 1 0 1 1 none,.bool true]) [(1,⟨.own 56,[.slc 2 0 1 19 none]⟩),(2,⟨.own 5,bys (ofM 1 [d])⟩)] 3
  refine fun_anyG none cMg cMg_ok ck142 (Nat.le_of_ble_eq_true rfl) (by decide) ?_
  conv in mkSF _ _=>(reduce;simp only [u8lit,UInt8.reduceOfNat,Int.reduceOfNat,Int.reduceNegSucc])
  rw [exG_mk]
  have hl:(bys d).length=16:=by rw [len_bytes,hd]
  have td:=take16 hd
  have gt:=gText_eq hd
  have gi:=gIn1 hd
  simp (config:={ maxSteps:=1000000 }) only [cMg,tabMg,hl,td,↓gt,↓gi,Int.reduceGE,reduceCtorEq,Nat.reduceEqDiff,Nat.reduceAdd,Nat.reduceSub,Nat.reduceLT,Int.reduceLT,↓reduceIte,splice,BC,↓PC]
  exact ⟨[(0,0),(4,0),(3,0)],by simp [Nat.reduceAdd,Nat.reduceLT,Nat.reduceLeDiff,↓reduceIte,BC]⟩
set_option maxHeartbeats 8000000 in
theorem f84s0 (IH:Inp 0):Inp 1:=by
  intro i d X hi hd hX
  show Fun Tryz.prog tH2 142 [.int .i64 2,.int .i64 (i:Int),.agg (bys d),.slc 0 0 16 1 none] [(0,⟨.view,bys X⟩)] 1
    (.tup [.slc 1 0 1 2 none,.bool true]) [(1,⟨.own 56,ouC 3 2 1⟩),(2,⟨.own 5,bys (inK i d X 1)⟩)] 4
  have hi:i < 2:=hi
  have hX:X.length=16:=hX
  refine fun_anyG none cMg cMg_ok ck142 (Nat.le_of_ble_eq_true rfl) (by decide) ?_
  conv in mkSF _ _=>(reduce;simp only [u8lit,UInt8.reduceOfNat,Int.reduceOfNat,Int.reduceNegSucc])
  rw [exG_mk]
  have hl:(bys d).length=16:=by rw [len_bytes,hd]
  have td:=take16 hd
  have lX:(bys X).length=16:=by rw [len_bytes,hX]
  have pl:(prf X 0).length=16:=by simp [prf,hX]
  have lP:(bys (prf X 0)).length=16:=by rw [len_bytes,pl]
  have tP:List.take 16 (bys X)=bys (prf X 0):=by simp [prf,bys,List.map_take]
  have ttP:=take16 pl
  have gs:gSpl [.int .i64 2]=some (.int .i64 1):=rfl
  have c1:¬ (i:Int) < 0:=by omega
  have c2:¬ (i:Int) ≥ 2:=by omega
  have gtP:=gText_eq pl
  have hin:inK i d X 1=if bitB i 0=true then ofM 2 [prf X 0,shS (inK i d X 0)] else ofM 2 [shS (inK i d X 0),prf X 0]:=rfl
  have il:(inK i d X 0).length=19:=inK_len (h:=1) hd hX 0 (by decide)
  have sl:=shS_len (inK i d X 0)
  have gsh:=gShN_eq il (by omega)
  have tI:List.take 19 (bys (inK i d X 0))=bys (inK i d X 0):=List.take_of_length_le (by rw [len_bytes,il];omega)
  have lI:(bys (inK i d X 0)).length=19:=by rw [len_bytes,il]
  have gtS:=gText_eq sl
  have gi1:=gIn2 sl pl
  have gi2:=gIn2 pl sl
  have lS:(bys (shS (inK i d X 0))).length=16:=by rw [len_bytes,sl]
  have ttS:=take16 sl
  have xl:(X.take 0).length=16 * 0:=by rw [List.length_take,hX];omega
  by_cases hb:i < 1
  · have c3:(i:Int) < 1:=by omega
    have F:=IH i d (X.take 0) hb hd xl
    rw [inK_congr (i':=i) (X':=X) 0 (fun _ _=>rfl) (fun j hj=>prf_take (h:=0) hj)] at F
    have hbit:bitB i 0=false:=bit_low (h:=0) hb
    rw [hbit] at hin
    simp only [Bool.false_eq_true,if_false] at hin
    simp (config:={ maxSteps:=1000000 }) only [cMg,tabMg,gs,c1,c2,c3,hl,td,lX,tP,lP,Int.reduceBEq,reduceCtorEq,Nat.reduceEqDiff,Nat.reduceAdd,Nat.reduceMul,Nat.reduceLT,Int.reduceToNat,Int.reduceLT,Int.reduceLE,Int.reduceSub,Int.reduceNeg,↓reduceIte,upd,splice,BC,↓PC]
    refine ⟨[(0,0)],_,_,_,_,_,F,?_,⟨⟨_,rfl,?_,?_⟩,trivial⟩,⟨by simp,trivial⟩,⟨by decide,trivial⟩,by simp,⟨fun _=>rfl,fun _=>rfl,trivial⟩,?_⟩
    · simp only [SV.renL,SV.ren,ren_bytes,eta,List.getElem?_cons_zero,Option.getD_some] <;> rfl
    · simp only [len_bytes,xl,hX,eta,List.getElem?_cons_zero,Option.getD_some];omega
    · exact view_take _ _ _
    simp (config:={ maxSteps:=1000000 }) only [lP,ttP,↓gsh,↓gtS,↓gtP,↓gi1,tI,lI,ouC,List.range,List.range.loop,lenK,Nat.reduceAdd,reduceCtorEq,Nat.reduceEqDiff,Nat.reduceAdd,Nat.reduceSub,Nat.reduceMul,Nat.reduceLeDiff,Nat.reduceLT,Int.reduceToNat,Int.reduceLT,Int.reduceLE,Int.reduceSub,Int.reduceNeg,↓reduceIte,evA,splice,BC,↓PC]
    exact ⟨by omega,by omega,[(0,0),(8,0),(6,0),(4,0)],by simp [hin,Nat.reduceAdd,Nat.reduceAdd,Nat.reduceEqDiff,Nat.reduceLT,Nat.reduceLeDiff,↓reduceIte,BC]⟩
  · have c3:¬ (i:Int) < 1:=by omega
    have F:=IH (i - 1) d (X.take 0) (show i - 1 < 1 by omega) hd xl
    rw [inK_congr (i':=i) (X':=X) 0 (fun j hj=>bit_rest (h:=0) (by omega) hj) (fun j hj=>prf_take (h:=0) hj)] at F
    have w1:IntKind.i64.wrap ((i:Int) - 1)=((i - 1:Nat):Int):=by rw [wrap64_eq (by omega) (by omega)];omega
    have hbit:bitB i 0=true:=bit_high (h:=0) (by omega) hi
    rw [hbit] at hin
    simp only [if_true] at hin
    simp (config:={ maxSteps:=1000000 }) only [cMg,tabMg,gs,c1,c2,c3,w1,hl,td,lX,tP,lP,Int.reduceBEq,reduceCtorEq,Nat.reduceEqDiff,Nat.reduceAdd,Nat.reduceMul,Nat.reduceLT,Int.reduceToNat,Int.reduceLT,Int.reduceLE,Int.reduceSub,Int.reduceNeg,↓reduceIte,upd,splice,BC,↓PC]
    refine ⟨[(0,0)],_,_,_,_,_,F,?_,⟨⟨_,rfl,?_,?_⟩,trivial⟩,⟨by simp,trivial⟩,⟨by decide,trivial⟩,by simp,⟨fun _=>rfl,fun _=>rfl,trivial⟩,?_⟩
    · simp only [SV.renL,SV.ren,ren_bytes,eta,List.getElem?_cons_zero,Option.getD_some] <;> rfl
    · simp only [len_bytes,xl,hX,eta,List.getElem?_cons_zero,Option.getD_some];omega
    · exact view_take _ _ _
    simp (config:={ maxSteps:=1000000 }) only [lP,ttP,↓gsh,↓gtS,↓gtP,↓gi2,tI,lI,ouC,List.range,List.range.loop,lenK,Nat.reduceAdd,reduceCtorEq,Nat.reduceEqDiff,Nat.reduceAdd,Nat.reduceSub,Nat.reduceMul,Nat.reduceLeDiff,Nat.reduceLT,Int.reduceToNat,Int.reduceLT,Int.reduceLE,Int.reduceSub,Int.reduceNeg,↓reduceIte,evA,splice,BC,↓PC]
    exact ⟨by omega,by omega,[(0,0),(8,0),(6,0),(4,0)],by simp [hin,Nat.reduceAdd,Nat.reduceAdd,Nat.reduceEqDiff,Nat.reduceLT,Nat.reduceLeDiff,↓reduceIte,BC]⟩
set_option maxHeartbeats 8000000 in
theorem f84s1 (IH:Inp 1):Inp 2:=by
  intro i d X hi hd hX
  show Fun Tryz.prog tH2 142 [.int .i64 4,.int .i64 (i:Int),.agg (bys d),.slc 0 0 16 2 none] [(0,⟨.view,bys X⟩)] 1
    (.tup [.slc 1 0 1 3 none,.bool true]) [(1,⟨.own 56,ouC 3 2 2⟩),(2,⟨.own 5,bys (inK i d X 2)⟩)] 5
  have hi:i < 4:=hi
  have hX:X.length=32:=hX
  refine fun_anyG none cMg cMg_ok ck142 (Nat.le_of_ble_eq_true rfl) (by decide) ?_
  conv in mkSF _ _=>(reduce;simp only [u8lit,UInt8.reduceOfNat,Int.reduceOfNat,Int.reduceNegSucc])
  rw [exG_mk]
  have hl:(bys d).length=16:=by rw [len_bytes,hd]
  have td:=take16 hd
  have lX:(bys X).length=32:=by rw [len_bytes,hX]
  have pl:(prf X 1).length=16:=by simp [prf,hX]
  have lP:(bys (prf X 1)).length=16:=by rw [len_bytes,pl]
  have tP:List.take 16 (List.drop 16 (bys X))=bys (prf X 1):=by simp [prf,bys,List.map_take,List.map_drop]
  have ttP:=take16 pl
  have gs:gSpl [.int .i64 4]=some (.int .i64 2):=rfl
  have c1:¬ (i:Int) < 0:=by omega
  have c2:¬ (i:Int) ≥ 4:=by omega
  have gtP:=gText_eq pl
  have hin:inK i d X 2=if bitB i 1=true then ofM 2 [prf X 1,shS (inK i d X 1)] else ofM 2 [shS (inK i d X 1),prf X 1]:=rfl
  have il:(inK i d X 1).length=37:=inK_len (h:=2) hd hX 1 (by decide)
  have sl:=shS_len (inK i d X 1)
  have gsh:=gShN_eq il (by omega)
  have tI:List.take 37 (bys (inK i d X 1))=bys (inK i d X 1):=List.take_of_length_le (by rw [len_bytes,il];omega)
  have lI:(bys (inK i d X 1)).length=37:=by rw [len_bytes,il]
  have gtS:=gText_eq sl
  have gi1:=gIn2 sl pl
  have gi2:=gIn2 pl sl
  have lS:(bys (shS (inK i d X 1))).length=16:=by rw [len_bytes,sl]
  have ttS:=take16 sl
  have xl:(X.take 16).length=16 * 1:=by rw [List.length_take,hX];omega
  by_cases hb:i < 2
  · have c3:(i:Int) < 2:=by omega
    have F:=IH i d (X.take 16) hb hd xl
    rw [inK_congr (i':=i) (X':=X) 1 (fun _ _=>rfl) (fun j hj=>prf_take (h:=1) hj)] at F
    have hbit:bitB i 1=false:=bit_low (h:=1) hb
    rw [hbit] at hin
    simp only [Bool.false_eq_true,if_false] at hin
    simp (config:={ maxSteps:=1000000 }) only [cMg,tabMg,gs,c1,c2,c3,hl,td,lX,tP,lP,Int.reduceBEq,reduceCtorEq,Nat.reduceEqDiff,Nat.reduceAdd,Nat.reduceMul,Nat.reduceLT,Int.reduceToNat,Int.reduceLT,Int.reduceLE,Int.reduceSub,Int.reduceNeg,↓reduceIte,upd,splice,BC,↓PC]
    refine ⟨[(0,0)],_,_,_,_,_,F,?_,⟨⟨_,rfl,?_,?_⟩,trivial⟩,⟨by simp,trivial⟩,⟨by decide,trivial⟩,by simp,⟨fun _=>rfl,fun _=>rfl,trivial⟩,?_⟩
    · simp only [SV.renL,SV.ren,ren_bytes,eta,List.getElem?_cons_zero,Option.getD_some] <;> rfl
    · simp only [len_bytes,xl,hX,eta,List.getElem?_cons_zero,Option.getD_some];omega
    · exact view_take _ _ _
    simp (config:={ maxSteps:=1000000 }) only [lP,ttP,↓gsh,↓gtS,↓gtP,↓gi1,tI,lI,ouC,List.range,List.range.loop,lenK,Nat.reduceAdd,reduceCtorEq,Nat.reduceEqDiff,Nat.reduceAdd,Nat.reduceSub,Nat.reduceMul,Nat.reduceLeDiff,Nat.reduceLT,Int.reduceToNat,Int.reduceLT,Int.reduceLE,Int.reduceSub,Int.reduceNeg,↓reduceIte,evA,splice,BC,↓PC]
    exact ⟨by omega,by omega,[(0,0),(9,0),(7,0),(5,0),(4,0)],by simp [hin,Nat.reduceAdd,Nat.reduceAdd,Nat.reduceEqDiff,Nat.reduceLT,Nat.reduceLeDiff,↓reduceIte,BC]⟩
  · have c3:¬ (i:Int) < 2:=by omega
    have F:=IH (i - 2) d (X.take 16) (show i - 2 < 2 by omega) hd xl
    rw [inK_congr (i':=i) (X':=X) 1 (fun j hj=>bit_rest (h:=1) (by omega) hj) (fun j hj=>prf_take (h:=1) hj)] at F
    have w1:IntKind.i64.wrap ((i:Int) - 2)=((i - 2:Nat):Int):=by rw [wrap64_eq (by omega) (by omega)];omega
    have hbit:bitB i 1=true:=bit_high (h:=1) (by omega) hi
    rw [hbit] at hin
    simp only [if_true] at hin
    simp (config:={ maxSteps:=1000000 }) only [cMg,tabMg,gs,c1,c2,c3,w1,hl,td,lX,tP,lP,Int.reduceBEq,reduceCtorEq,Nat.reduceEqDiff,Nat.reduceAdd,Nat.reduceMul,Nat.reduceLT,Int.reduceToNat,Int.reduceLT,Int.reduceLE,Int.reduceSub,Int.reduceNeg,↓reduceIte,upd,splice,BC,↓PC]
    refine ⟨[(0,0)],_,_,_,_,_,F,?_,⟨⟨_,rfl,?_,?_⟩,trivial⟩,⟨by simp,trivial⟩,⟨by decide,trivial⟩,by simp,⟨fun _=>rfl,fun _=>rfl,trivial⟩,?_⟩
    · simp only [SV.renL,SV.ren,ren_bytes,eta,List.getElem?_cons_zero,Option.getD_some] <;> rfl
    · simp only [len_bytes,xl,hX,eta,List.getElem?_cons_zero,Option.getD_some];omega
    · exact view_take _ _ _
    simp (config:={ maxSteps:=1000000 }) only [lP,ttP,↓gsh,↓gtS,↓gtP,↓gi2,tI,lI,ouC,List.range,List.range.loop,lenK,Nat.reduceAdd,reduceCtorEq,Nat.reduceEqDiff,Nat.reduceAdd,Nat.reduceSub,Nat.reduceMul,Nat.reduceLeDiff,Nat.reduceLT,Int.reduceToNat,Int.reduceLT,Int.reduceLE,Int.reduceSub,Int.reduceNeg,↓reduceIte,evA,splice,BC,↓PC]
    exact ⟨by omega,by omega,[(0,0),(9,0),(7,0),(5,0),(4,0)],by simp [hin,Nat.reduceAdd,Nat.reduceAdd,Nat.reduceEqDiff,Nat.reduceLT,Nat.reduceLeDiff,↓reduceIte,BC]⟩
set_option maxHeartbeats 8000000 in
theorem f84s2 (IH:Inp 2):Inp 3:=by
  intro i d X hi hd hX
  show Fun Tryz.prog tH2 142 [.int .i64 8,.int .i64 (i:Int),.agg (bys d),.slc 0 0 16 3 none] [(0,⟨.view,bys X⟩)] 1
    (.tup [.slc 1 0 1 4 none,.bool true]) [(1,⟨.own 56,ouC 3 2 3⟩),(2,⟨.own 5,bys (inK i d X 3)⟩)] 6
  have hi:i < 8:=hi
  have hX:X.length=48:=hX
  refine fun_anyG none cMg cMg_ok ck142 (Nat.le_of_ble_eq_true rfl) (by decide) ?_
  conv in mkSF _ _=>(reduce;simp only [u8lit,UInt8.reduceOfNat,Int.reduceOfNat,Int.reduceNegSucc])
  rw [exG_mk]
  have hl:(bys d).length=16:=by rw [len_bytes,hd]
  have td:=take16 hd
  have lX:(bys X).length=48:=by rw [len_bytes,hX]
  have pl:(prf X 2).length=16:=by simp [prf,hX]
  have lP:(bys (prf X 2)).length=16:=by rw [len_bytes,pl]
  have tP:List.take 16 (List.drop 32 (bys X))=bys (prf X 2):=by simp [prf,bys,List.map_take,List.map_drop]
  have ttP:=take16 pl
  have gs:gSpl [.int .i64 8]=some (.int .i64 4):=rfl
  have c1:¬ (i:Int) < 0:=by omega
  have c2:¬ (i:Int) ≥ 8:=by omega
  have gtP:=gText_eq pl
  have hin:inK i d X 3=if bitB i 2=true then ofM 2 [prf X 2,shS (inK i d X 2)] else ofM 2 [shS (inK i d X 2),prf X 2]:=rfl
  have il:(inK i d X 2).length=37:=inK_len (h:=3) hd hX 2 (by decide)
  have sl:=shS_len (inK i d X 2)
  have gsh:=gShN_eq il (by omega)
  have tI:List.take 37 (bys (inK i d X 2))=bys (inK i d X 2):=List.take_of_length_le (by rw [len_bytes,il];omega)
  have lI:(bys (inK i d X 2)).length=37:=by rw [len_bytes,il]
  have gtS:=gText_eq sl
  have gi1:=gIn2 sl pl
  have gi2:=gIn2 pl sl
  have lS:(bys (shS (inK i d X 2))).length=16:=by rw [len_bytes,sl]
  have ttS:=take16 sl
  have xl:(X.take 32).length=16 * 2:=by rw [List.length_take,hX];omega
  by_cases hb:i < 4
  · have c3:(i:Int) < 4:=by omega
    have F:=IH i d (X.take 32) hb hd xl
    rw [inK_congr (i':=i) (X':=X) 2 (fun _ _=>rfl) (fun j hj=>prf_take (h:=2) hj)] at F
    have hbit:bitB i 2=false:=bit_low (h:=2) hb
    rw [hbit] at hin
    simp only [Bool.false_eq_true,if_false] at hin
    simp (config:={ maxSteps:=1000000 }) only [cMg,tabMg,gs,c1,c2,c3,hl,td,lX,tP,lP,Int.reduceBEq,reduceCtorEq,Nat.reduceEqDiff,Nat.reduceAdd,Nat.reduceMul,Nat.reduceLT,Int.reduceToNat,Int.reduceLT,Int.reduceLE,Int.reduceSub,Int.reduceNeg,↓reduceIte,upd,splice,BC,↓PC]
    refine ⟨[(0,0)],_,_,_,_,_,F,?_,⟨⟨_,rfl,?_,?_⟩,trivial⟩,⟨by simp,trivial⟩,⟨by decide,trivial⟩,by simp,⟨fun _=>rfl,fun _=>rfl,trivial⟩,?_⟩
    · simp only [SV.renL,SV.ren,ren_bytes,eta,List.getElem?_cons_zero,Option.getD_some] <;> rfl
    · simp only [len_bytes,xl,hX,eta,List.getElem?_cons_zero,Option.getD_some];omega
    · exact view_take _ _ _
    simp (config:={ maxSteps:=1000000 }) only [lP,ttP,↓gsh,↓gtS,↓gtP,↓gi1,tI,lI,ouC,List.range,List.range.loop,lenK,Nat.reduceAdd,reduceCtorEq,Nat.reduceEqDiff,Nat.reduceAdd,Nat.reduceSub,Nat.reduceMul,Nat.reduceLeDiff,Nat.reduceLT,Int.reduceToNat,Int.reduceLT,Int.reduceLE,Int.reduceSub,Int.reduceNeg,↓reduceIte,evA,splice,BC,↓PC]
    exact ⟨by omega,by omega,[(0,0),(10,0),(8,0),(5,0),(6,0),(4,0)],by simp [hin,Nat.reduceAdd,Nat.reduceAdd,Nat.reduceEqDiff,Nat.reduceLT,Nat.reduceLeDiff,↓reduceIte,BC]⟩
  · have c3:¬ (i:Int) < 4:=by omega
    have F:=IH (i - 4) d (X.take 32) (show i - 4 < 4 by omega) hd xl
    rw [inK_congr (i':=i) (X':=X) 2 (fun j hj=>bit_rest (h:=2) (by omega) hj) (fun j hj=>prf_take (h:=2) hj)] at F
    have w1:IntKind.i64.wrap ((i:Int) - 4)=((i - 4:Nat):Int):=by rw [wrap64_eq (by omega) (by omega)];omega
    have hbit:bitB i 2=true:=bit_high (h:=2) (by omega) hi
    rw [hbit] at hin
    simp only [if_true] at hin
    simp (config:={ maxSteps:=1000000 }) only [cMg,tabMg,gs,c1,c2,c3,w1,hl,td,lX,tP,lP,Int.reduceBEq,reduceCtorEq,Nat.reduceEqDiff,Nat.reduceAdd,Nat.reduceMul,Nat.reduceLT,Int.reduceToNat,Int.reduceLT,Int.reduceLE,Int.reduceSub,Int.reduceNeg,↓reduceIte,upd,splice,BC,↓PC]
    refine ⟨[(0,0)],_,_,_,_,_,F,?_,⟨⟨_,rfl,?_,?_⟩,trivial⟩,⟨by simp,trivial⟩,⟨by decide,trivial⟩,by simp,⟨fun _=>rfl,fun _=>rfl,trivial⟩,?_⟩
    · simp only [SV.renL,SV.ren,ren_bytes,eta,List.getElem?_cons_zero,Option.getD_some] <;> rfl
    · simp only [len_bytes,xl,hX,eta,List.getElem?_cons_zero,Option.getD_some];omega
    · exact view_take _ _ _
    simp (config:={ maxSteps:=1000000 }) only [lP,ttP,↓gsh,↓gtS,↓gtP,↓gi2,tI,lI,ouC,List.range,List.range.loop,lenK,Nat.reduceAdd,reduceCtorEq,Nat.reduceEqDiff,Nat.reduceAdd,Nat.reduceSub,Nat.reduceMul,Nat.reduceLeDiff,Nat.reduceLT,Int.reduceToNat,Int.reduceLT,Int.reduceLE,Int.reduceSub,Int.reduceNeg,↓reduceIte,evA,splice,BC,↓PC]
    exact ⟨by omega,by omega,[(0,0),(10,0),(8,0),(5,0),(6,0),(4,0)],by simp [hin,Nat.reduceAdd,Nat.reduceAdd,Nat.reduceEqDiff,Nat.reduceLT,Nat.reduceLeDiff,↓reduceIte,BC]⟩
set_option maxHeartbeats 8000000 in
theorem f84s3 (IH:Inp 3):Inp 4:=by
  intro i d X hi hd hX
  show Fun Tryz.prog tH2 142 [.int .i64 16,.int .i64 (i:Int),.agg (bys d),.slc 0 0 16 4 none] [(0,⟨.view,bys X⟩)] 1
    (.tup [.slc 1 0 1 5 none,.bool true]) [(1,⟨.own 56,ouC 3 2 4⟩),(2,⟨.own 5,bys (inK i d X 4)⟩)] 7
  have hi:i < 16:=hi
  have hX:X.length=64:=hX
  refine fun_anyG none cMg cMg_ok ck142 (Nat.le_of_ble_eq_true rfl) (by decide) ?_
  conv in mkSF _ _=>(reduce;simp only [u8lit,UInt8.reduceOfNat,Int.reduceOfNat,Int.reduceNegSucc])
  rw [exG_mk]
  have hl:(bys d).length=16:=by rw [len_bytes,hd]
  have td:=take16 hd
  have lX:(bys X).length=64:=by rw [len_bytes,hX]
  have pl:(prf X 3).length=16:=by simp [prf,hX]
  have lP:(bys (prf X 3)).length=16:=by rw [len_bytes,pl]
  have tP:List.take 16 (List.drop 48 (bys X))=bys (prf X 3):=by simp [prf,bys,List.map_take,List.map_drop]
  have ttP:=take16 pl
  have gs:gSpl [.int .i64 16]=some (.int .i64 8):=rfl
  have c1:¬ (i:Int) < 0:=by omega
  have c2:¬ (i:Int) ≥ 16:=by omega
  have gtP:=gText_eq pl
  have hin:inK i d X 4=if bitB i 3=true then ofM 2 [prf X 3,shS (inK i d X 3)] else ofM 2 [shS (inK i d X 3),prf X 3]:=rfl
  have il:(inK i d X 3).length=37:=inK_len (h:=4) hd hX 3 (by decide)
  have sl:=shS_len (inK i d X 3)
  have gsh:=gShN_eq il (by omega)
  have tI:List.take 37 (bys (inK i d X 3))=bys (inK i d X 3):=List.take_of_length_le (by rw [len_bytes,il];omega)
  have lI:(bys (inK i d X 3)).length=37:=by rw [len_bytes,il]
  have gtS:=gText_eq sl
  have gi1:=gIn2 sl pl
  have gi2:=gIn2 pl sl
  have lS:(bys (shS (inK i d X 3))).length=16:=by rw [len_bytes,sl]
  have ttS:=take16 sl
  have xl:(X.take 48).length=16 * 3:=by rw [List.length_take,hX];omega
  by_cases hb:i < 8
  · have c3:(i:Int) < 8:=by omega
    have F:=IH i d (X.take 48) hb hd xl
    rw [inK_congr (i':=i) (X':=X) 3 (fun _ _=>rfl) (fun j hj=>prf_take (h:=3) hj)] at F
    have hbit:bitB i 3=false:=bit_low (h:=3) hb
    rw [hbit] at hin
    simp only [Bool.false_eq_true,if_false] at hin
    simp (config:={ maxSteps:=1000000 }) only [cMg,tabMg,gs,c1,c2,c3,hl,td,lX,tP,lP,Int.reduceBEq,reduceCtorEq,Nat.reduceEqDiff,Nat.reduceAdd,Nat.reduceMul,Nat.reduceLT,Int.reduceToNat,Int.reduceLT,Int.reduceLE,Int.reduceSub,Int.reduceNeg,↓reduceIte,upd,splice,BC,↓PC]
    refine ⟨[(0,0)],_,_,_,_,_,F,?_,⟨⟨_,rfl,?_,?_⟩,trivial⟩,⟨by simp,trivial⟩,⟨by decide,trivial⟩,by simp,⟨fun _=>rfl,fun _=>rfl,trivial⟩,?_⟩
    · simp only [SV.renL,SV.ren,ren_bytes,eta,List.getElem?_cons_zero,Option.getD_some] <;> rfl
    · simp only [len_bytes,xl,hX,eta,List.getElem?_cons_zero,Option.getD_some];omega
    · exact view_take _ _ _
    simp (config:={ maxSteps:=1000000 }) only [lP,ttP,↓gsh,↓gtS,↓gtP,↓gi1,tI,lI,ouC,List.range,List.range.loop,lenK,Nat.reduceAdd,reduceCtorEq,Nat.reduceEqDiff,Nat.reduceAdd,Nat.reduceSub,Nat.reduceMul,Nat.reduceLeDiff,Nat.reduceLT,Int.reduceToNat,Int.reduceLT,Int.reduceLE,Int.reduceSub,Int.reduceNeg,↓reduceIte,evA,splice,BC,↓PC]
    exact ⟨by omega,by omega,[(0,0),(11,0),(9,0),(5,0),(6,0),(7,0),(4,0)],by simp [hin,Nat.reduceAdd,Nat.reduceAdd,Nat.reduceEqDiff,Nat.reduceLT,Nat.reduceLeDiff,↓reduceIte,BC]⟩
  · have c3:¬ (i:Int) < 8:=by omega
    have F:=IH (i - 8) d (X.take 48) (show i - 8 < 8 by omega) hd xl
    rw [inK_congr (i':=i) (X':=X) 3 (fun j hj=>bit_rest (h:=3) (by omega) hj) (fun j hj=>prf_take (h:=3) hj)] at F
    have w1:IntKind.i64.wrap ((i:Int) - 8)=((i - 8:Nat):Int):=by rw [wrap64_eq (by omega) (by omega)];omega
    have hbit:bitB i 3=true:=bit_high (h:=3) (by omega) hi
    rw [hbit] at hin
    simp only [if_true] at hin
    simp (config:={ maxSteps:=1000000 }) only [cMg,tabMg,gs,c1,c2,c3,w1,hl,td,lX,tP,lP,Int.reduceBEq,reduceCtorEq,Nat.reduceEqDiff,Nat.reduceAdd,Nat.reduceMul,Nat.reduceLT,Int.reduceToNat,Int.reduceLT,Int.reduceLE,Int.reduceSub,Int.reduceNeg,↓reduceIte,upd,splice,BC,↓PC]
    refine ⟨[(0,0)],_,_,_,_,_,F,?_,⟨⟨_,rfl,?_,?_⟩,trivial⟩,⟨by simp,trivial⟩,⟨by decide,trivial⟩,by simp,⟨fun _=>rfl,fun _=>rfl,trivial⟩,?_⟩
    · simp only [SV.renL,SV.ren,ren_bytes,eta,List.getElem?_cons_zero,Option.getD_some] <;> rfl
    · simp only [len_bytes,xl,hX,eta,List.getElem?_cons_zero,Option.getD_some];omega
    · exact view_take _ _ _
    simp (config:={ maxSteps:=1000000 }) only [lP,ttP,↓gsh,↓gtS,↓gtP,↓gi2,tI,lI,ouC,List.range,List.range.loop,lenK,Nat.reduceAdd,reduceCtorEq,Nat.reduceEqDiff,Nat.reduceAdd,Nat.reduceSub,Nat.reduceMul,Nat.reduceLeDiff,Nat.reduceLT,Int.reduceToNat,Int.reduceLT,Int.reduceLE,Int.reduceSub,Int.reduceNeg,↓reduceIte,evA,splice,BC,↓PC]
    exact ⟨by omega,by omega,[(0,0),(11,0),(9,0),(5,0),(6,0),(7,0),(4,0)],by simp [hin,Nat.reduceAdd,Nat.reduceAdd,Nat.reduceEqDiff,Nat.reduceLT,Nat.reduceLeDiff,↓reduceIte,BC]⟩
set_option maxHeartbeats 8000000 in
theorem f84s4 (IH:Inp 4):Inp 5:=by
  intro i d X hi hd hX
  show Fun Tryz.prog tH2 142 [.int .i64 32,.int .i64 (i:Int),.agg (bys d),.slc 0 0 16 5 none] [(0,⟨.view,bys X⟩)] 1
    (.tup [.slc 1 0 1 6 none,.bool true]) [(1,⟨.own 56,ouC 3 2 5⟩),(2,⟨.own 5,bys (inK i d X 5)⟩)] 8
  have hi:i < 32:=hi
  have hX:X.length=80:=hX
  refine fun_anyG none cMg cMg_ok ck142 (Nat.le_of_ble_eq_true rfl) (by decide) ?_
  conv in mkSF _ _=>(reduce;simp only [u8lit,UInt8.reduceOfNat,Int.reduceOfNat,Int.reduceNegSucc])
  rw [exG_mk]
  have hl:(bys d).length=16:=by rw [len_bytes,hd]
  have td:=take16 hd
  have lX:(bys X).length=80:=by rw [len_bytes,hX]
  have pl:(prf X 4).length=16:=by simp [prf,hX]
  have lP:(bys (prf X 4)).length=16:=by rw [len_bytes,pl]
  have tP:List.take 16 (List.drop 64 (bys X))=bys (prf X 4):=by simp [prf,bys,List.map_take,List.map_drop]
  have ttP:=take16 pl
  have gs:gSpl [.int .i64 32]=some (.int .i64 16):=rfl
  have c1:¬ (i:Int) < 0:=by omega
  have c2:¬ (i:Int) ≥ 32:=by omega
  have gtP:=gText_eq pl
  have hin:inK i d X 5=if bitB i 4=true then ofM 2 [prf X 4,shS (inK i d X 4)] else ofM 2 [shS (inK i d X 4),prf X 4]:=rfl
  have il:(inK i d X 4).length=37:=inK_len (h:=5) hd hX 4 (by decide)
  have sl:=shS_len (inK i d X 4)
  have gsh:=gShN_eq il (by omega)
  have tI:List.take 37 (bys (inK i d X 4))=bys (inK i d X 4):=List.take_of_length_le (by rw [len_bytes,il];omega)
  have lI:(bys (inK i d X 4)).length=37:=by rw [len_bytes,il]
  have gtS:=gText_eq sl
  have gi1:=gIn2 sl pl
  have gi2:=gIn2 pl sl
  have lS:(bys (shS (inK i d X 4))).length=16:=by rw [len_bytes,sl]
  have ttS:=take16 sl
  have xl:(X.take 64).length=16 * 4:=by rw [List.length_take,hX];omega
  by_cases hb:i < 16
  · have c3:(i:Int) < 16:=by omega
    have F:=IH i d (X.take 64) hb hd xl
    rw [inK_congr (i':=i) (X':=X) 4 (fun _ _=>rfl) (fun j hj=>prf_take (h:=4) hj)] at F
    have hbit:bitB i 4=false:=bit_low (h:=4) hb
    rw [hbit] at hin
    simp only [Bool.false_eq_true,if_false] at hin
    simp (config:={ maxSteps:=1000000 }) only [cMg,tabMg,gs,c1,c2,c3,hl,td,lX,tP,lP,Int.reduceBEq,reduceCtorEq,Nat.reduceEqDiff,Nat.reduceAdd,Nat.reduceMul,Nat.reduceLT,Int.reduceToNat,Int.reduceLT,Int.reduceLE,Int.reduceSub,Int.reduceNeg,↓reduceIte,upd,splice,BC,↓PC]
    refine ⟨[(0,0)],_,_,_,_,_,F,?_,⟨⟨_,rfl,?_,?_⟩,trivial⟩,⟨by simp,trivial⟩,⟨by decide,trivial⟩,by simp,⟨fun _=>rfl,fun _=>rfl,trivial⟩,?_⟩
    · simp only [SV.renL,SV.ren,ren_bytes,eta,List.getElem?_cons_zero,Option.getD_some] <;> rfl
    · simp only [len_bytes,xl,hX,eta,List.getElem?_cons_zero,Option.getD_some];omega
    · exact view_take _ _ _
    simp (config:={ maxSteps:=1000000 }) only [lP,ttP,↓gsh,↓gtS,↓gtP,↓gi1,tI,lI,ouC,List.range,List.range.loop,lenK,Nat.reduceAdd,reduceCtorEq,Nat.reduceEqDiff,Nat.reduceAdd,Nat.reduceSub,Nat.reduceMul,Nat.reduceLeDiff,Nat.reduceLT,Int.reduceToNat,Int.reduceLT,Int.reduceLE,Int.reduceSub,Int.reduceNeg,↓reduceIte,evA,splice,BC,↓PC]
    exact ⟨by omega,by omega,[(0,0),(12,0),(10,0),(5,0),(6,0),(7,0),(8,0),(4,0)],by simp [hin,Nat.reduceAdd,Nat.reduceAdd,Nat.reduceEqDiff,Nat.reduceLT,Nat.reduceLeDiff,↓reduceIte,BC]⟩
  · have c3:¬ (i:Int) < 16:=by omega
    have F:=IH (i - 16) d (X.take 64) (show i - 16 < 16 by omega) hd xl
    rw [inK_congr (i':=i) (X':=X) 4 (fun j hj=>bit_rest (h:=4) (by omega) hj) (fun j hj=>prf_take (h:=4) hj)] at F
    have w1:IntKind.i64.wrap ((i:Int) - 16)=((i - 16:Nat):Int):=by rw [wrap64_eq (by omega) (by omega)];omega
    have hbit:bitB i 4=true:=bit_high (h:=4) (by omega) hi
    rw [hbit] at hin
    simp only [if_true] at hin
    simp (config:={ maxSteps:=1000000 }) only [cMg,tabMg,gs,c1,c2,c3,w1,hl,td,lX,tP,lP,Int.reduceBEq,reduceCtorEq,Nat.reduceEqDiff,Nat.reduceAdd,Nat.reduceMul,Nat.reduceLT,Int.reduceToNat,Int.reduceLT,Int.reduceLE,Int.reduceSub,Int.reduceNeg,↓reduceIte,upd,splice,BC,↓PC]
    refine ⟨[(0,0)],_,_,_,_,_,F,?_,⟨⟨_,rfl,?_,?_⟩,trivial⟩,⟨by simp,trivial⟩,⟨by decide,trivial⟩,by simp,⟨fun _=>rfl,fun _=>rfl,trivial⟩,?_⟩
    · simp only [SV.renL,SV.ren,ren_bytes,eta,List.getElem?_cons_zero,Option.getD_some] <;> rfl
    · simp only [len_bytes,xl,hX,eta,List.getElem?_cons_zero,Option.getD_some];omega
    · exact view_take _ _ _
    simp (config:={ maxSteps:=1000000 }) only [lP,ttP,↓gsh,↓gtS,↓gtP,↓gi2,tI,lI,ouC,List.range,List.range.loop,lenK,Nat.reduceAdd,reduceCtorEq,Nat.reduceEqDiff,Nat.reduceAdd,Nat.reduceSub,Nat.reduceMul,Nat.reduceLeDiff,Nat.reduceLT,Int.reduceToNat,Int.reduceLT,Int.reduceLE,Int.reduceSub,Int.reduceNeg,↓reduceIte,evA,splice,BC,↓PC]
    exact ⟨by omega,by omega,[(0,0),(12,0),(10,0),(5,0),(6,0),(7,0),(8,0),(4,0)],by simp [hin,Nat.reduceAdd,Nat.reduceAdd,Nat.reduceEqDiff,Nat.reduceLT,Nat.reduceLeDiff,↓reduceIte,BC]⟩
set_option maxHeartbeats 8000000 in
theorem f84s5 (IH:Inp 5):Inp 6:=by
  intro i d X hi hd hX
  show Fun Tryz.prog tH2 142 [.int .i64 64,.int .i64 (i:Int),.agg (bys d),.slc 0 0 16 6 none] [(0,⟨.view,bys X⟩)] 1
    (.tup [.slc 1 0 1 7 none,.bool true]) [(1,⟨.own 56,ouC 3 2 6⟩),(2,⟨.own 5,bys (inK i d X 6)⟩)] 9
  have hi:i < 64:=hi
  have hX:X.length=96:=hX
  refine fun_anyG none cMg cMg_ok ck142 (Nat.le_of_ble_eq_true rfl) (by decide) ?_
  conv in mkSF _ _=>(reduce;simp only [u8lit,UInt8.reduceOfNat,Int.reduceOfNat,Int.reduceNegSucc])
  rw [exG_mk]
  have hl:(bys d).length=16:=by rw [len_bytes,hd]
  have td:=take16 hd
  have lX:(bys X).length=96:=by rw [len_bytes,hX]
  have pl:(prf X 5).length=16:=by simp [prf,hX]
  have lP:(bys (prf X 5)).length=16:=by rw [len_bytes,pl]
  have tP:List.take 16 (List.drop 80 (bys X))=bys (prf X 5):=by simp [prf,bys,List.map_take,List.map_drop]
  have ttP:=take16 pl
  have gs:gSpl [.int .i64 64]=some (.int .i64 32):=rfl
  have c1:¬ (i:Int) < 0:=by omega
  have c2:¬ (i:Int) ≥ 64:=by omega
  have gtP:=gText_eq pl
  have hin:inK i d X 6=if bitB i 5=true then ofM 2 [prf X 5,shS (inK i d X 5)] else ofM 2 [shS (inK i d X 5),prf X 5]:=rfl
  have il:(inK i d X 5).length=37:=inK_len (h:=6) hd hX 5 (by decide)
  have sl:=shS_len (inK i d X 5)
  have gsh:=gShN_eq il (by omega)
  have tI:List.take 37 (bys (inK i d X 5))=bys (inK i d X 5):=List.take_of_length_le (by rw [len_bytes,il];omega)
  have lI:(bys (inK i d X 5)).length=37:=by rw [len_bytes,il]
  have gtS:=gText_eq sl
  have gi1:=gIn2 sl pl
  have gi2:=gIn2 pl sl
  have lS:(bys (shS (inK i d X 5))).length=16:=by rw [len_bytes,sl]
  have ttS:=take16 sl
  have xl:(X.take 80).length=16 * 5:=by rw [List.length_take,hX];omega
  by_cases hb:i < 32
  · have c3:(i:Int) < 32:=by omega
    have F:=IH i d (X.take 80) hb hd xl
    rw [inK_congr (i':=i) (X':=X) 5 (fun _ _=>rfl) (fun j hj=>prf_take (h:=5) hj)] at F
    have hbit:bitB i 5=false:=bit_low (h:=5) hb
    rw [hbit] at hin
    simp only [Bool.false_eq_true,if_false] at hin
    simp (config:={ maxSteps:=1000000 }) only [cMg,tabMg,gs,c1,c2,c3,hl,td,lX,tP,lP,Int.reduceBEq,reduceCtorEq,Nat.reduceEqDiff,Nat.reduceAdd,Nat.reduceMul,Nat.reduceLT,Int.reduceToNat,Int.reduceLT,Int.reduceLE,Int.reduceSub,Int.reduceNeg,↓reduceIte,upd,splice,BC,↓PC]
    refine ⟨[(0,0)],_,_,_,_,_,F,?_,⟨⟨_,rfl,?_,?_⟩,trivial⟩,⟨by simp,trivial⟩,⟨by decide,trivial⟩,by simp,⟨fun _=>rfl,fun _=>rfl,trivial⟩,?_⟩
    · simp only [SV.renL,SV.ren,ren_bytes,eta,List.getElem?_cons_zero,Option.getD_some] <;> rfl
    · simp only [len_bytes,xl,hX,eta,List.getElem?_cons_zero,Option.getD_some];omega
    · exact view_take _ _ _
    simp (config:={ maxSteps:=1000000 }) only [lP,ttP,↓gsh,↓gtS,↓gtP,↓gi1,tI,lI,ouC,List.range,List.range.loop,lenK,Nat.reduceAdd,reduceCtorEq,Nat.reduceEqDiff,Nat.reduceAdd,Nat.reduceSub,Nat.reduceMul,Nat.reduceLeDiff,Nat.reduceLT,Int.reduceToNat,Int.reduceLT,Int.reduceLE,Int.reduceSub,Int.reduceNeg,↓reduceIte,evA,splice,BC,↓PC]
    exact ⟨by omega,by omega,[(0,0),(13,0),(11,0),(5,0),(6,0),(7,0),(8,0),(9,0),(4,0)],by simp [hin,Nat.reduceAdd,Nat.reduceAdd,Nat.reduceEqDiff,Nat.reduceLT,Nat.reduceLeDiff,↓reduceIte,BC]⟩
  · have c3:¬ (i:Int) < 32:=by omega
    have F:=IH (i - 32) d (X.take 80) (show i - 32 < 32 by omega) hd xl
    rw [inK_congr (i':=i) (X':=X) 5 (fun j hj=>bit_rest (h:=5) (by omega) hj) (fun j hj=>prf_take (h:=5) hj)] at F
    have w1:IntKind.i64.wrap ((i:Int) - 32)=((i - 32:Nat):Int):=by rw [wrap64_eq (by omega) (by omega)];omega
    have hbit:bitB i 5=true:=bit_high (h:=5) (by omega) hi
    rw [hbit] at hin
    simp only [if_true] at hin
    simp (config:={ maxSteps:=1000000 }) only [cMg,tabMg,gs,c1,c2,c3,w1,hl,td,lX,tP,lP,Int.reduceBEq,reduceCtorEq,Nat.reduceEqDiff,Nat.reduceAdd,Nat.reduceMul,Nat.reduceLT,Int.reduceToNat,Int.reduceLT,Int.reduceLE,Int.reduceSub,Int.reduceNeg,↓reduceIte,upd,splice,BC,↓PC]
    refine ⟨[(0,0)],_,_,_,_,_,F,?_,⟨⟨_,rfl,?_,?_⟩,trivial⟩,⟨by simp,trivial⟩,⟨by decide,trivial⟩,by simp,⟨fun _=>rfl,fun _=>rfl,trivial⟩,?_⟩
    · simp only [SV.renL,SV.ren,ren_bytes,eta,List.getElem?_cons_zero,Option.getD_some] <;> rfl
    · simp only [len_bytes,xl,hX,eta,List.getElem?_cons_zero,Option.getD_some];omega
    · exact view_take _ _ _
    simp (config:={ maxSteps:=1000000 }) only [lP,ttP,↓gsh,↓gtS,↓gtP,↓gi2,tI,lI,ouC,List.range,List.range.loop,lenK,Nat.reduceAdd,reduceCtorEq,Nat.reduceEqDiff,Nat.reduceAdd,Nat.reduceSub,Nat.reduceMul,Nat.reduceLeDiff,Nat.reduceLT,Int.reduceToNat,Int.reduceLT,Int.reduceLE,Int.reduceSub,Int.reduceNeg,↓reduceIte,evA,splice,BC,↓PC]
    exact ⟨by omega,by omega,[(0,0),(13,0),(11,0),(5,0),(6,0),(7,0),(8,0),(9,0),(4,0)],by simp [hin,Nat.reduceAdd,Nat.reduceAdd,Nat.reduceEqDiff,Nat.reduceLT,Nat.reduceLeDiff,↓reduceIte,BC]⟩
end Go.Proofs.YtmhkkalbijbplaaGreatDoor
