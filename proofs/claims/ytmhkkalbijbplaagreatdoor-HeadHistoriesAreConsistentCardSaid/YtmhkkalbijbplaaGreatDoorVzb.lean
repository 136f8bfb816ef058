/- The proof, part Vzb: PgA, LwE, PhA, LwF. -/
import Derived.Test.YtmhkkalbijbplaaGreatDoorVx
import Derived.Test.YtmhkkalbijbplaaGreatDoorVza
set_option linter.unusedSimpArgs false
set_option linter.unusedVariables false
set_option maxRecDepth 100000
set_option maxHeartbeats 16000000
namespace Go.Proofs.YtmhkkalbijbplaaGreatDoor
open Go Go.Sx
def z4 (M:List UInt8) (s t:Int) (R S M':List UInt8) (s' t':Int) (R' S':List UInt8) (ok:Bool):Int:=
 if nT M s t S=false∨nT M' s' t' S'=false∨M≠M'∨s > s' then 1 else if t > t' then 20 else
 if (s=0∧R≠dE 1 [])∨(s'=0∧R'≠dE 1 []) then 7 else if s=0 then 0 else if ok=true then 0 else 7
theorem ZP (M:List UInt8) (s t:Int) (R S M':List UInt8) (s' t':Int) (R' S':List UInt8) (ok:Bool) (X:List UInt8) (c:Nat) (lR:R.length=16) (lR':R'.length=16)
  (F:0 < s→s≤s'→s'≤4294967296→Fun Tryz.prog aO 67 [.agg (aB R),.agg (aB R'),.int .i64 s,.int .i64 s',.slc 0 0 16 c none] [(0,⟨.view,aB X⟩)] 1 (.bool ok) [] 1) :
  Fun Tryz.prog aO 25 [.agg (dG M s t R S),.agg (dG M' s' t' R' S'),.slc 0 0 16 c none] [(0,⟨.view,aB X⟩)] 1 (.int .i64 (z4 M s t R S M' s' t' R' S' ok)) [] 1:=by
 refine dK Tryz.f25 (by kernel_rfl) (fun _=>rfl) ?_
 conv in aJ _ _=>(reduce;simp only[aH,seval])
 have fa:=LQ (tS:=aO) M s t R S lR
 have fb:=LQ (tS:=aO) M' s' t' R' S' lR'
 have fr:=VC
 have lO:=bK 1 []
 have eA:=lN lR lO
 have eB:=lN lR' lO
 have tk:=fun x=>cP (x:=x) lR
 have tl:=fun l=>iD (l:=l) lR
 have fl:=dH R
 have tk':=fun x=>cP (x:=x) lR'
 have tl':=fun l=>iD (l:=l) lR'
 have fl':=dH R'
 have rr:=aX R
 unfold z4
 by_cases va:nT M s t S=true
 case neg=>
  have va:nT M s t S=false:=by simpa using va
  rw[if_pos (.inl va)]
  rw[va] at fa
  unfold dG at *
  simp only[lR,tk,fl,NV,↓NP,seval]
  refine aE fa ?_
  simp only[fl,Bool.not_false,NV,↓NP,undef,seval]
 rw[va] at fa
 by_cases vb:nT M' s' t' S'=true
 case neg=>
  have vb:nT M' s' t' S'=false:=by simpa using vb
  rw[if_pos (.inr (.inl vb))]
  rw[vb] at fb
  unfold dG at *
  simp only[lR,tk,fl,NV,↓NP,seval]
  refine aE fa ?_
  simp only[lR',fl,tk',fl',Bool.not_true,NV,↓NP,seval]
  refine aE fb ?_
  simp only[fl',Bool.not_false,NV,↓NP,undef,seval]
 rw[vb] at fb
 have b1:=of_decide_eq_true va
 have b2:=of_decide_eq_true vb
 by_cases hM:M=M'
 case neg=>
  rw[if_pos (.inr (.inr (.inl hM)))]
  have cM:(M==M')=false:=by simpa using hM
  unfold dG at *
  simp only[lR,tk,fl,NV,↓NP,seval]
  refine aE fa ?_
  simp only[lR',fl,tk',fl',Bool.not_true,NV,↓NP,seval]
  refine aE fb ?_
  simp only[fl',Bool.not_false,Bool.not_true,cM,NV,↓NP,undef,seval]
 have cM:(M==M')=true:=by simpa using hM
 by_cases hs:s > s'
 ·rw[if_pos (.inr (.inr (.inr hs)))]
  unfold dG at *
  simp only[lR,tk,fl,NV,↓NP,seval]
  refine aE fa ?_
  simp only[lR',fl,tk',fl',Bool.not_true,NV,↓NP,seval]
  refine aE fb ?_
  simp only[fl',Bool.not_true,cM,hs,NV,↓NP,seval]
 rw[if_neg (by rw[va,vb];simp[hM];omega)]
 by_cases ht:t > t'
 ·rw[if_pos ht]
  unfold dG at *
  simp only[lR,tk,fl,NV,↓NP,seval]
  refine aE fa ?_
  simp only[lR',fl,tk',fl',Bool.not_true,NV,↓NP,seval]
  refine aE fb ?_
  simp only[fl',Bool.not_true,cM,hs,ht,NV,↓NP,seval]
 rw[if_neg ht]
 by_cases z:s=0
 ·subst z
  cases qA:(R==dE 1 []) with
  | false=>
   have nA:R≠dE 1 []:=by simpa using qA
   rw[if_pos (.inl ⟨rfl,nA⟩)]
   rw[qA] at eA
   generalize dE 1 []=O at *
   unfold dG at *
   simp only[lR,tk,fl,NV,↓NP,seval]
   refine aE fa ?_
   simp only[lR',fl,tk',fl',Bool.not_true,NV,↓NP,seval]
   refine aE fb ?_
   simp only[lR,tl,fl',Bool.not_true,cM,hs,ht,NV,↓NP,seval]
   refine aI [] fr ?_
   simp only[Bool.not_false,eA,NV,NJ,↓NP,seval]
  | true=>
   have nA:R=dE 1 []:=by simpa using qA
   rw[qA] at eA
   by_cases z':s'=0
   ·subst z'
    cases qB:(R'==dE 1 []) with
    | false=>
     have nB:R'≠dE 1 []:=by simpa using qB
     rw[if_pos (.inr ⟨rfl,nB⟩)]
     rw[qB] at eB
     generalize dE 1 []=O at *
     unfold dG at *
     simp only[lR,tk,fl,NV,↓NP,seval]
     refine aE fa ?_
     simp only[lR',fl,tk',fl',Bool.not_true,NV,↓NP,seval]
     refine aE fb ?_
     simp only[lR,tl,fl',Bool.not_true,cM,hs,ht,NV,↓NP,seval]
     refine aI [] fr ?_
     simp only[lR',tl',Bool.not_true,eA,NV,NJ,↓NP,seval]
     refine aI [] fr ?_
     simp only[Bool.not_false,eB,NV,NJ,↓NP,seval]
    | true=>
     have nB:R'=dE 1 []:=by simpa using qB
     rw[if_neg (fun h=>h.elim (fun q=>q.2 nA) (fun q=>q.2 nB)),if_pos rfl]
     rw[qB] at eB
     generalize dE 1 []=O at *
     unfold dG at *
     simp only[lR,tk,fl,NV,↓NP,seval]
     refine aE fa ?_
     simp only[lR',fl,tk',fl',Bool.not_true,NV,↓NP,seval]
     refine aE fb ?_
     simp only[lR,tl,fl',Bool.not_true,cM,hs,ht,NV,↓NP,seval]
     refine aI [] fr ?_
     simp only[lR',tl',Bool.not_true,eA,NV,NJ,↓NP,seval]
     refine aI [] fr ?_
     simp only[Bool.not_true,hs,eB,NV,NJ,↓NP,undef,seval]
   ·have cz:(s'==0)=false:=by simpa using z'
    rw[if_neg (fun h=>h.elim (fun q=>q.2 nA) (fun q=>z' q.1)),if_pos rfl]
    generalize dE 1 []=O at *
    unfold dG at *
    simp only[lR,tk,fl,NV,↓NP,seval]
    refine aE fa ?_
    simp only[lR',fl,tk',fl',Bool.not_true,NV,↓NP,seval]
    refine aE fb ?_
    simp only[lR,tl,fl',Bool.not_true,cM,hs,ht,NV,↓NP,seval]
    refine aI [] fr ?_
    simp only[Bool.not_true,eA,cz,NV,NJ,↓NP,undef,seval]
 ·have cz:(s==0)=false:=by simpa using z
  have z':s'≠0:=by omega
  have cz':(s'==0)=false:=by simpa using z'
  have cp:s > 0:=by omega
  rw[if_neg (fun h=>h.elim (fun q=>z q.1) (fun q=>z' q.1)),if_neg z]
  have F:=F (by omega) (by omega) (by omega)
  generalize dE 1 []=O at *
  unfold dG at *
  cases ok with
  | true=>
   rw[if_pos rfl]
   simp only[lR,tk,fl,NV,↓NP,seval]
   refine aE fa ?_
   simp only[lR',fl,tk',fl',Bool.not_true,NV,↓NP,seval]
   refine aE fb ?_
   simp only[lR,lR',tl,tl',fl',Bool.not_true,cM,hs,ht,cz,cz',cp,NV,↓NP,undef,seval]
   refine aI [(0,0)] F ?_
   simp only[Bool.not_true,NV,NJ,↓NP,seval]
  | false=>
   rw[if_neg (by decide)]
   simp only[lR,tk,fl,NV,↓NP,seval]
   refine aE fa ?_
   simp only[lR',fl,tk',fl',Bool.not_true,NV,↓NP,seval]
   refine aE fb ?_
   simp only[lR,lR',tl,tl',fl',Bool.not_true,cM,hs,ht,cz,cz',cp,NV,↓NP,undef,seval]
   refine aI [(0,0)] F ?_
   simp only[Bool.not_false,NV,NJ,↓NP,seval]
theorem ABr (M:List UInt8) (s t:Int) (R S M':List UInt8) (s' t':Int) (R' S':List UInt8) (ok:Bool) (lR:R.length=16) (lR':R'.length=16)
  (F:0 < s→s≤s'→s'≤4294967296→Fun Tryz.prog aO 67 [.agg (aB R),.agg (aB R'),.int .i64 s,.int .i64 s',.val (.slice none 0 0)] [] 0 (.bool ok) [] 0) :
  Fun Tryz.prog aO 25 [.agg (dG M s t R S),.agg (dG M' s' t' R' S'),.val (.slice none 0 0)] [] 0 (.int .i64 (z4 M s t R S M' s' t' R' S' ok)) [] 0:=by
 refine dK Tryz.f25 (by kernel_rfl) (fun _=>rfl) ?_
 conv in aJ _ _=>(reduce;simp only[aH,seval])
 have fa:=LQ (tS:=aO) M s t R S lR
 have fb:=LQ (tS:=aO) M' s' t' R' S' lR'
 have fr:=VC
 have lO:=bK 1 []
 have eA:=lN lR lO
 have eB:=lN lR' lO
 have tk:=fun x=>cP (x:=x) lR
 have tl:=fun l=>iD (l:=l) lR
 have fl:=dH R
 have tk':=fun x=>cP (x:=x) lR'
 have tl':=fun l=>iD (l:=l) lR'
 have fl':=dH R'
 have rr:=aX R
 unfold z4
 by_cases va:nT M s t S=true
 case neg=>
  have va:nT M s t S=false:=by simpa using va
  rw[if_pos (.inl va)]
  rw[va] at fa
  unfold dG at *
  simp only[lR,tk,fl,NV,↓NP,seval]
  refine aE fa ?_
  simp only[fl,Bool.not_false,NV,↓NP,undef,seval]
 rw[va] at fa
 by_cases vb:nT M' s' t' S'=true
 case neg=>
  have vb:nT M' s' t' S'=false:=by simpa using vb
  rw[if_pos (.inr (.inl vb))]
  rw[vb] at fb
  unfold dG at *
  simp only[lR,tk,fl,NV,↓NP,seval]
  refine aE fa ?_
  simp only[lR',fl,tk',fl',Bool.not_true,NV,↓NP,seval]
  refine aE fb ?_
  simp only[fl',Bool.not_false,NV,↓NP,undef,seval]
 rw[vb] at fb
 have b1:=of_decide_eq_true va
 have b2:=of_decide_eq_true vb
 by_cases hM:M=M'
 case neg=>
  rw[if_pos (.inr (.inr (.inl hM)))]
  have cM:(M==M')=false:=by simpa using hM
  unfold dG at *
  simp only[lR,tk,fl,NV,↓NP,seval]
  refine aE fa ?_
  simp only[lR',fl,tk',fl',Bool.not_true,NV,↓NP,seval]
  refine aE fb ?_
  simp only[fl',Bool.not_false,Bool.not_true,cM,NV,↓NP,undef,seval]
 have cM:(M==M')=true:=by simpa using hM
 by_cases hs:s > s'
 ·rw[if_pos (.inr (.inr (.inr hs)))]
  unfold dG at *
  simp only[lR,tk,fl,NV,↓NP,seval]
  refine aE fa ?_
  simp only[lR',fl,tk',fl',Bool.not_true,NV,↓NP,seval]
  refine aE fb ?_
  simp only[fl',Bool.not_true,cM,hs,NV,↓NP,seval]
 rw[if_neg (by rw[va,vb];simp[hM];omega)]
 by_cases ht:t > t'
 ·rw[if_pos ht]
  unfold dG at *
  simp only[lR,tk,fl,NV,↓NP,seval]
  refine aE fa ?_
  simp only[lR',fl,tk',fl',Bool.not_true,NV,↓NP,seval]
  refine aE fb ?_
  simp only[fl',Bool.not_true,cM,hs,ht,NV,↓NP,seval]
 rw[if_neg ht]
 by_cases z:s=0
 ·subst z
  cases qA:(R==dE 1 []) with
  | false=>
   have nA:R≠dE 1 []:=by simpa using qA
   rw[if_pos (.inl ⟨rfl,nA⟩)]
   rw[qA] at eA
   generalize dE 1 []=O at *
   unfold dG at *
   simp only[lR,tk,fl,NV,↓NP,seval]
   refine aE fa ?_
   simp only[lR',fl,tk',fl',Bool.not_true,NV,↓NP,seval]
   refine aE fb ?_
   simp only[lR,tl,fl',Bool.not_true,cM,hs,ht,NV,↓NP,seval]
   refine aI [] fr ?_
   simp only[Bool.not_false,eA,NV,NJ,↓NP,seval]
  | true=>
   have nA:R=dE 1 []:=by simpa using qA
   rw[qA] at eA
   by_cases z':s'=0
   ·subst z'
    cases qB:(R'==dE 1 []) with
    | false=>
     have nB:R'≠dE 1 []:=by simpa using qB
     rw[if_pos (.inr ⟨rfl,nB⟩)]
     rw[qB] at eB
     generalize dE 1 []=O at *
     unfold dG at *
     simp only[lR,tk,fl,NV,↓NP,seval]
     refine aE fa ?_
     simp only[lR',fl,tk',fl',Bool.not_true,NV,↓NP,seval]
     refine aE fb ?_
     simp only[lR,tl,fl',Bool.not_true,cM,hs,ht,NV,↓NP,seval]
     refine aI [] fr ?_
     simp only[lR',tl',Bool.not_true,eA,NV,NJ,↓NP,seval]
     refine aI [] fr ?_
     simp only[Bool.not_false,eB,NV,NJ,↓NP,seval]
    | true=>
     have nB:R'=dE 1 []:=by simpa using qB
     rw[if_neg (fun h=>h.elim (fun q=>q.2 nA) (fun q=>q.2 nB)),if_pos rfl]
     rw[qB] at eB
     generalize dE 1 []=O at *
     unfold dG at *
     simp only[lR,tk,fl,NV,↓NP,seval]
     refine aE fa ?_
     simp only[lR',fl,tk',fl',Bool.not_true,NV,↓NP,seval]
     refine aE fb ?_
     simp only[lR,tl,fl',Bool.not_true,cM,hs,ht,NV,↓NP,seval]
     refine aI [] fr ?_
     simp only[lR',tl',Bool.not_true,eA,NV,NJ,↓NP,seval]
     refine aI [] fr ?_
     simp only[Bool.not_true,hs,eB,NV,NJ,↓NP,undef,seval]
   ·have cz:(s'==0)=false:=by simpa using z'
    rw[if_neg (fun h=>h.elim (fun q=>q.2 nA) (fun q=>z' q.1)),if_pos rfl]
    generalize dE 1 []=O at *
    unfold dG at *
    simp only[lR,tk,fl,NV,↓NP,seval]
    refine aE fa ?_
    simp only[lR',fl,tk',fl',Bool.not_true,NV,↓NP,seval]
    refine aE fb ?_
    simp only[lR,tl,fl',Bool.not_true,cM,hs,ht,NV,↓NP,seval]
    refine aI [] fr ?_
    simp only[Bool.not_true,eA,cz,NV,NJ,↓NP,undef,seval]
 ·have cz:(s==0)=false:=by simpa using z
  have z':s'≠0:=by omega
  have cz':(s'==0)=false:=by simpa using z'
  have cp:s > 0:=by omega
  rw[if_neg (fun h=>h.elim (fun q=>z q.1) (fun q=>z' q.1)),if_neg z]
  have F:=F (by omega) (by omega) (by omega)
  generalize dE 1 []=O at *
  unfold dG at *
  cases ok with
  | true=>
   rw[if_pos rfl]
   simp only[lR,tk,fl,NV,↓NP,seval]
   refine aE fa ?_
   simp only[lR',fl,tk',fl',Bool.not_true,NV,↓NP,seval]
   refine aE fb ?_
   simp only[lR,lR',tl,tl',fl',Bool.not_true,cM,hs,ht,cz,cz',cp,NV,↓NP,undef,seval]
   refine aI [] F ?_
   simp only[Bool.not_true,NV,NJ,↓NP,seval]
  | false=>
   rw[if_neg (by decide)]
   simp only[lR,tk,fl,NV,↓NP,seval]
   refine aE fa ?_
   simp only[lR',fl,tk',fl',Bool.not_true,NV,↓NP,seval]
   refine aE fb ?_
   simp only[lR,lR',tl,tl',fl',Bool.not_true,cM,hs,ht,cz,cz',cp,NV,↓NP,undef,seval]
   refine aI [] F ?_
   simp only[Bool.not_false,NV,NJ,↓NP,seval]
theorem h26 (M:List UInt8) (s t:Int) (R S M':List UInt8) (s' t':Int) (R' S':List UInt8) (ok:Bool) (X:List UInt8) (c:Nat) (lR:R.length=16) (lR':R'.length=16)
  (F:0 < s→s≤s'→s'≤4294967296→Fun Tryz.prog aO 68 [.agg (aB R),.agg (aB R'),.int .i64 s,.int .i64 s',.slc 0 0 16 c none] [(0,⟨.view,aB X⟩)] 1 (.bool ok) [] 1) :
  Fun Tryz.prog aO 26 [.agg (dG M s t R S),.agg (dG M' s' t' R' S'),.slc 0 0 16 c none] [(0,⟨.view,aB X⟩)] 1 (.int .i64 (z4 M s t R S M' s' t' R' S' ok)) [] 1:=by
 refine dK Tryz.f26 (by kernel_rfl) (fun _=>rfl) ?_
 conv in aJ _ _=>(reduce;simp only[aH,seval])
 have fa:=Qw (tS:=aO) M s t R S lR
 have fb:=Qw (tS:=aO) M' s' t' R' S' lR'
 have fr:=Yr
 have lO:=bK 1 []
 have eA:=lN lR lO
 have eB:=lN lR' lO
 have tk:=fun x=>cP (x:=x) lR
 have tl:=fun l=>iD (l:=l) lR
 have fl:=dH R
 have tk':=fun x=>cP (x:=x) lR'
 have tl':=fun l=>iD (l:=l) lR'
 have fl':=dH R'
 have rr:=aX R
 unfold z4
 by_cases va:nT M s t S=true
 case neg=>
  have va:nT M s t S=false:=by simpa using va
  rw[if_pos (.inl va)]
  rw[va] at fa
  generalize nT M' s' t' S'=w at fb
  unfold dG at *
  simp only[lR,tk,fl,NV,↓NP,seval]
  refine aE fa ?_
  simp only[lR',fl,tk',fl',NV,↓NP,seval]
  refine aE fb ?_
  simp only[fl',Bool.not_false,NV,↓NP,undef,seval]
 rw[va] at fa
 by_cases vb:nT M' s' t' S'=true
 case neg=>
  have vb:nT M' s' t' S'=false:=by simpa using vb
  rw[if_pos (.inr (.inl vb))]
  rw[vb] at fb
  unfold dG at *
  simp only[lR,tk,fl,NV,↓NP,seval]
  refine aE fa ?_
  simp only[lR',fl,tk',fl',NV,↓NP,seval]
  refine aE fb ?_
  simp only[fl',Bool.not_false,Bool.not_true,NV,↓NP,undef,seval]
 rw[vb] at fb
 have b1:=of_decide_eq_true va
 have b2:=of_decide_eq_true vb
 by_cases hM:M=M'
 case neg=>
  rw[if_pos (.inr (.inr (.inl hM)))]
  have cM:(M==M')=false:=by simpa using hM
  unfold dG at *
  simp only[lR,tk,fl,NV,↓NP,seval]
  refine aE fa ?_
  simp only[lR',fl,tk',fl',NV,↓NP,seval]
  refine aE fb ?_
  simp only[fl',Bool.not_false,Bool.not_true,cM,NV,↓NP,undef,seval]
 have cM:(M==M')=true:=by simpa using hM
 by_cases hs:s > s'
 ·rw[if_pos (.inr (.inr (.inr hs)))]
  unfold dG at *
  simp only[lR,tk,fl,NV,↓NP,seval]
  refine aE fa ?_
  simp only[lR',fl,tk',fl',NV,↓NP,seval]
  refine aE fb ?_
  simp only[fl',Bool.not_true,cM,hs,NV,↓NP,seval]
 rw[if_neg (by rw[va,vb];simp[hM];omega)]
 by_cases ht:t > t'
 ·rw[if_pos ht]
  unfold dG at *
  simp only[lR,tk,fl,NV,↓NP,seval]
  refine aE fa ?_
  simp only[lR',fl,tk',fl',NV,↓NP,seval]
  refine aE fb ?_
  simp only[fl',Bool.not_true,cM,hs,ht,NV,↓NP,seval]
 rw[if_neg ht]
 by_cases z:s=0
 ·subst z
  cases qA:(R==dE 1 []) with
  | false=>
   have nA:R≠dE 1 []:=by simpa using qA
   rw[if_pos (.inl ⟨rfl,nA⟩)]
   rw[qA] at eA
   generalize dE 1 []=O at *
   unfold dG at *
   simp only[lR,tk,fl,NV,↓NP,seval]
   refine aE fa ?_
   simp only[lR',fl,tk',fl',NV,↓NP,seval]
   refine aE fb ?_
   simp only[fl',Bool.not_true,cM,hs,ht,NV,↓NP,seval]
   refine aI [] fr ?_
   simp only[lR,lO,tl,Bool.not_false,eA,NV,NJ,↓NP,undef,bC,seval]
  | true=>
   have nA:R=dE 1 []:=by simpa using qA
   rw[qA] at eA
   by_cases z':s'=0
   ·subst z'
    cases qB:(R'==dE 1 []) with
    | false=>
     have nB:R'≠dE 1 []:=by simpa using qB
     rw[if_pos (.inr ⟨rfl,nB⟩)]
     rw[qB] at eB
     generalize dE 1 []=O at *
     unfold dG at *
     simp only[lR,tk,fl,NV,↓NP,seval]
     refine aE fa ?_
     simp only[lR',fl,tk',fl',NV,↓NP,seval]
     refine aE fb ?_
     simp only[fl',Bool.not_true,cM,hs,ht,NV,↓NP,seval]
     refine aI [] fr ?_
     simp only[lR,lR',lO,tl,tl',Bool.not_false,Bool.not_true,eA,eB,NV,NJ,↓NP,bC,seval]
    | true=>
     have nB:R'=dE 1 []:=by simpa using qB
     rw[if_neg (fun h=>h.elim (fun q=>q.2 nA) (fun q=>q.2 nB)),if_pos rfl]
     rw[qB] at eB
     generalize dE 1 []=O at *
     unfold dG at *
     simp only[lR,tk,fl,NV,↓NP,seval]
     refine aE fa ?_
     simp only[lR',fl,tk',fl',NV,↓NP,seval]
     refine aE fb ?_
     simp only[fl',Bool.not_true,cM,hs,ht,NV,↓NP,seval]
     refine aI [] fr ?_
     simp only[lR,lR',lO,tl,tl',Bool.not_true,eA,eB,NV,NJ,↓NP,bC,seval]
   ·have cz:(s'==0)=false:=by simpa using z'
    rw[if_neg (fun h=>h.elim (fun q=>q.2 nA) (fun q=>z' q.1)),if_pos rfl]
    generalize dE 1 []=O at *
    unfold dG at *
    simp only[lR,tk,fl,NV,↓NP,seval]
    refine aE fa ?_
    simp only[lR',fl,tk',fl',NV,↓NP,seval]
    refine aE fb ?_
    simp only[fl',Bool.not_true,cM,hs,ht,NV,↓NP,seval]
    refine aI [] fr ?_
    simp only[lR,lO,tl,Bool.not_true,eA,cz,NV,NJ,↓NP,undef,bC,seval]
 ·have cz:(s==0)=false:=by simpa using z
  have z':s'≠0:=by omega
  have cz':(s'==0)=false:=by simpa using z'
  have cp:s > 0:=by omega
  rw[if_neg (fun h=>h.elim (fun q=>z q.1) (fun q=>z' q.1)),if_neg z]
  have F:=F (by omega) (by omega) (by omega)
  generalize dE 1 []=O at *
  unfold dG at *
  cases ok with
  | true=>
   rw[if_pos rfl]
   simp only[lR,tk,fl,NV,↓NP,seval]
   refine aE fa ?_
   simp only[lR',fl,tk',fl',NV,↓NP,seval]
   refine aE fb ?_
   simp only[fl',Bool.not_true,cM,hs,ht,NV,↓NP,seval]
   refine aI [] fr ?_
   simp only[lR,lR',lO,tl,tl',Bool.not_true,cz,cz',NV,NJ,↓NP,undef,bC,seval]
   refine aI [(0,0)] F ?_
   simp only[Bool.not_true,NV,NJ,↓NP,seval]
  | false=>
   rw[if_neg (by decide)]
   simp only[lR,tk,fl,NV,↓NP,seval]
   refine aE fa ?_
   simp only[lR',fl,tk',fl',NV,↓NP,seval]
   refine aE fb ?_
   simp only[fl',Bool.not_true,cM,hs,ht,NV,↓NP,seval]
   refine aI [] fr ?_
   simp only[lR,lR',lO,tl,tl',Bool.not_true,cz,cz',NV,NJ,↓NP,undef,bC,seval]
   refine aI [(0,0)] F ?_
   simp only[Bool.not_false,NV,NJ,↓NP,seval]
theorem TC (R R':List UInt8) (s s':Int) (X:List UInt8) (c:Nat) (lR:R.length=16) (lR':R'.length=16) (hX:X.length=16 * c) (hc:c≤1000) (h1:0 < s) (h2:s≤s') (h3:s'≤4294967296) :
  Fun Tryz.prog aO 67 [.agg (aB R),.agg (aB R'),.int .i64 s,.int .i64 s',.slc 0 0 16 c none] [(0,⟨.view,aB X⟩)] 1 (.bool (Mo R R' s.toNat s'.toNat X c)) [] 1:=by
 obtain⟨m,rfl⟩:=Int.eq_ofNat_of_zero_le (show 0≤s by omega)
 obtain⟨n,rfl⟩:=Int.eq_ofNat_of_zero_le (show 0≤s' by omega)
 rw[Int.toNat_natCast,Int.toNat_natCast]
 by_cases h:m=n
 ·subst h;exact ABo R R' m X c lR lR' (by omega)
 ·exact ABq R R' m n X c lR lR' (by omega) (by omega) (by omega) hX hc
theorem ABs (R R':List UInt8) (s s':Int) (X:List UInt8) (c:Nat) (lR:R.length=16) (lR':R'.length=16) (hX:X.length=16 * c) (hc:c≤1000) (h1:0 < s) (h2:s≤s') (h3:s'≤4294967296) :
  Fun Tryz.prog aO 68 [.agg (aB R),.agg (aB R'),.int .i64 s,.int .i64 s',.slc 0 0 16 c none] [(0,⟨.view,aB X⟩)] 1 (.bool (Mo R R' s.toNat s'.toNat X c)) [] 1:=by
 obtain⟨m,rfl⟩:=Int.eq_ofNat_of_zero_le (show 0≤s by omega)
 obtain⟨n,rfl⟩:=Int.eq_ofNat_of_zero_le (show 0≤s' by omega)
 rw[Int.toNat_natCast,Int.toNat_natCast]
 exact h68 R R' m n X c lR lR' (by omega) (by omega) (by omega) (by omega) hc
theorem h5 (M:List UInt8) (s t:Int) (R S M':List UInt8) (s' t':Int) (R' S' X:List UInt8) (c:Nat) (lR:R.length=16) (lR':R'.length=16) (hX:X.length=16 * c) :
  Fun Tryz.prog aO 5 [.agg (dG M s t R S),.agg (dG M' s' t' R' S'),.slc 0 0 16 c none] [(0,⟨.view,aB X⟩)] 1 (.bool true) [] 1:=by
 refine dK Tryz.f5 (by kernel_rfl) (fun _=>rfl) ?_
 conv in aJ _ _=>(reduce;simp only[aH,seval])
 have fa:=Qx (tS:=aO) M s t R S lR
 have fb:=Qx (tS:=aO) M' s' t' R' S' lR'
 have tk:=fun x=>cP (x:=x) lR
 have fl:=dH R
 have tk':=fun x=>cP (x:=x) lR'
 have fl':=dH R'
 by_cases hfa:M.length≤100∧S.length≤4000
 case neg=>
  rw[show (decide (M.length≤100) && decide (S.length≤4000))=false by simp;omega] at fa
  unfold dG at *
  simp only[NV,↓NP,seval]
  refine aE h9 ?_
  simp only[lR,tk,fl,NV,↓NP,seval]
  refine aE fa ?_
  simp only[fl,NV,↓NP,undef,seval]
 rw[decide_eq_true hfa.1,decide_eq_true hfa.2,Bool.and_self] at fa
 by_cases hfb:M'.length≤100∧S'.length≤4000
 case neg=>
  rw[show (decide (M'.length≤100) && decide (S'.length≤4000))=false by simp;omega] at fb
  unfold dG at *
  simp only[NV,↓NP,seval]
  refine aE h9 ?_
  simp only[lR,tk,fl,NV,↓NP,seval]
  refine aE fa ?_
  simp only[lR',tk',fl,fl',NV,↓NP,seval]
  refine aE fb ?_
  simp only[fl',NV,↓NP,undef,seval]
 rw[decide_eq_true hfb.1,decide_eq_true hfb.2,Bool.and_self] at fb
 by_cases hc:(c:Int) > 70
 ·unfold dG at *
  simp only[NV,↓NP,seval]
  refine aE h9 ?_
  simp only[lR,tk,fl,NV,↓NP,seval]
  refine aE fa ?_
  simp only[lR',tk',fl,fl',NV,↓NP,seval]
  refine aE fb ?_
  simp only[fl',hc,NV,↓NP,seval]
 have f1:=ZP M s t R S M' s' t' R' S' _ X c lR lR' (TC R R' s s' X c lR lR' hX (by omega))
 have f2:=h26 M s t R S M' s' t' R' S' _ X c lR lR' (ABs R R' s s' X c lR lR' hX (by omega))
 generalize z4 M s t R S M' s' t' R' S' (Mo R R' s.toNat s'.toNat X c)=E at *
 unfold dG at *
 simp only[NV,↓NP,seval]
 refine aE h9 ?_
 simp only[lR,tk,fl,NV,↓NP,seval]
 refine aE fa ?_
 simp only[lR',tk',fl,fl',NV,↓NP,seval]
 refine aE fb ?_
 simp only[lR,lR',tk,tk',fl',hc,NV,↓NP,seval]
 have rt:=fun η (R:List UInt8) x=>mR η R x
 refine aI [(0,0)] f1 ?_
 simp only[rt,lR,lR',tk,tk',NV,NJ,↓NP,seval]
 refine aI [(0,0)] f2 ?_
 simp only[rt,beq_self_eq_true,NV,NJ,↓NP,seval]
def Vz (n:Nat):Prop:=∀ X:List UInt8,X.length=16 * n→Fun Tryz.prog aO 33 [.slc 0 0 16 n none] [(0,⟨.view,aB X⟩)] 1 (.agg (aB (tN n X))) [] 1
theorem ABt:Vz 0:=by
 intro X hX
 rw[Gh]
 refine dK Tryz.f33 (by kernel_rfl) (fun _=>by simp only[SV.ren,aC]) ?_
 conv in aJ _ _=>(reduce;simp only[aH,seval])
 have hO:=bK 1 []
 simp only[NV,↓NP,seval]
 refine aI [] Yq ?_
 simp only[hO,NV,NJ,↓NP,bC,seval]
theorem ABu:Vz 1:=by
 intro X hX
 rw[Sy]
 refine dK Tryz.f33 (by kernel_rfl) (fun _=>by simp only[SV.ren,aC]) ?_
 conv in aJ _ _=>(reduce;simp only[aH,seval])
 have hX:X.length=16:=hX
 have fl:=YD X hX
 have hO:=bK 1 [X]
 generalize dE 1 [X]=O at *
 simp only[hX,NV,↓NP,seval]
 refine aE fl ?_
 simp only[hO,NV,↓NP,bC,seval]
theorem C7 {X:List UInt8} {n K:Nat} (hX:X.length=16 * n) (hK:K≤n) :
  List.take (K * 16) (aB X)=aB (X.take (16 * K))∧List.take ((n - K) * 16) (List.drop (K * 16) (aB X))=aB (X.drop (16 * K))∧(X.take (16 * K)).length=16 * K∧(X.drop (16 * K)).length=16 * (n - K):=by
 refine⟨by rw[Nat.mul_comm];simp[aB,List.map_take],?_,by rw[List.length_take];omega,by rw[List.length_drop];omega⟩
 rw[Nat.mul_comm K 16,show List.drop (16 * K) (aB X)=aB (X.drop (16 * K)) by simp[aB,List.map_drop]]
 exact List.take_of_length_le (by rw[aA,List.length_drop];omega)
theorem ABv {n:Nat} (h2:2≤n) (hn:n≤1000) (H1:Vz (aV n)) (H2:Vz (n - aV n)):Vz n:=by
 intro X hX
 rw[C5 X h2]
 refine dK Tryz.f33 (by kernel_rfl) (fun _=>by simp only[SV.ren,aC]) ?_
 conv in aJ _ _=>(reduce;simp only[aH,seval])
 have kp:=jW n
 have kl:=jI h2
 have fs:=Yz (tS:=aO) n h2 (by omega)
 obtain⟨t1,t2,x1,x2⟩:=C7 hX (Nat.le_of_lt kl)
 have F1:=H1 _ x1
 have F2:=H2 _ x2
 have r1:=lF (aV n) (X.take (16 * aV n))
 have r2:=lF (n - aV n) (X.drop (16 * aV n))
 generalize tN (aV n) (X.take (16 * aV n))=A at *
 generalize tN (n - aV n) (X.drop (16 * aV n))=B at *
 generalize X.take (16 * aV n)=X1 at *
 generalize X.drop (16 * aV n)=X2 at *
 have fn:=Pi A B r1 r2
 have hO:=bK 2 [A,B]
 generalize dE 2 [A,B]=O at *
 generalize aV n=K at *
 have c1:((n:Int)==0)=false:=by simp;omega
 have c2:((n:Int)==1)=false:=by simp;omega
 have c3:(0:Int)≤(K:Int):=by omega
 have c4:(K:Int)≤(n:Int):=by omega
 have c5:n * 16≤X.length:=by omega
 have c6:K * 16≤X.length:=by omega
 have c7:K * 16+(n - K) * 16≤X.length:=by omega
 have c8:16 * K=K * 16:=Nat.mul_comm _ _
 have c9:16 * (n - K)=(n - K) * 16:=Nat.mul_comm _ _
 simp only[c1,c2,NV,↓NP,seval]
 refine aE fs ?_
 simp only[c3,c4,c5,NV,↓NP,seval]
 refine aI [(0,0)] F1 ?_
 simp only[c3,c4,c5,c6,t1,x1,c8,NV,NJ,↓NP,seval]
 refine aI [(0,K * 16)] F2 ?_
 simp only[c7,t2,x2,c9,NV,NJ,↓NP,seval]
 refine aE fn ?_
 simp only[hO,NV,↓NP,bC,seval]
theorem ED:∀ n,n≤1000→Vz n:=by
 intro n
 induction n using Nat.strongRecOn with
 | ind n ih=>
  intro hn
  by_cases h2:2≤n
  ·have kp:=jW n
   have kl:=jI h2
   exact ABv h2 hn (ih _ kl (by omega)) (ih _ (by omega) (by omega))
  ·obtain rfl|rfl:n=0∨n=1:=by omega
   ·exact ABt
   ·exact ABu
def SbG (n:Nat):Prop:=∀ (m:Nat) (w:Bool) (X:List UInt8),1≤m→m≤n→X.length=16 * n →
 Fun Tryz.prog aO 80 [.slc 0 0 16 n none,.int .i64 (m:Int),.bool w] [(0,⟨.view,aB X⟩)] 1 (AN 1 16 (iE m n w)) (v7 1 24 (aB (pF m n w X)) [] (iE m n w)) (s9 1 (iE m n w))
theorem sbW (n:Nat) (X:List UInt8):Fun Tryz.prog aO 80 [.slc 0 0 16 n none,.int .i64 (n:Int),.bool true] [(0,⟨.view,aB X⟩)] 1 (.val (.slice none 0 0)) [] 1:=by
 refine fV Tryz.f80 (by kernel_rfl) (by decide) ?_
 conv in aJ _ _=>(reduce;simp only[aH,seval])
 simp only[beq_self_eq_true,NV,↓NP,seval]
 exact⟨[(0,0)],by simp[NF]⟩
theorem sbR (n:Nat) (X:List UInt8) (hX:X.length=16 * n) (hn:n≤1000):Fun Tryz.prog aO 80 [.slc 0 0 16 n none,.int .i64 (n:Int),.bool false] [(0,⟨.view,aB X⟩)] 1 (.slc 1 0 16 1 none) [(1,⟨.own 24,aB (tN n X)⟩)] 2:=by
 refine fV Tryz.f80 (by kernel_rfl) (by decide) ?_
 conv in aJ _ _=>(reduce;simp only[aH,seval])
 have F:=ED n hn X hX
 have l:=lF n X
 generalize tN n X=A at *
 simp only[beq_self_eq_true,NV,↓NP,seval]
 refine aI [(0,0)] F ?_
 simp only[l,NV,NJ,↓NP,seval]
 exact⟨[(0,0),(1,0)],by simp[NF,seval]⟩
theorem Gr:∀ (n m:Nat) (w:Bool),1≤m→m≤n→iE m n w≤n:=by
 intro n
 induction n using Nat.strongRecOn with
 | ind n ih=>
  intro m w h1 h2
  by_cases hmn:m=n
  ·subst hmn
   cases w
   ·rw[Gl];omega
   ·rw[Gk];omega
  have hlt:m < n:=by omega
  have k1:=jI (n:=n) (by omega)
  have k0:=jW n
  by_cases hk:m≤aV n
  ·rw[Ai h1 hlt hk];have:=ih _ k1 m w h1 hk;omega
  ·rw[Aj h1 hlt hk];have:=ih (n - aV n) (by omega) (m - aV n) false (by omega) (by omega);omega
theorem sbL (n m:Nat) (w:Bool) (X:List UInt8) (h1:1≤m) (h2:m < n) (hn:n≤1000) (hX:X.length=16 * n) (hk:m≤aV n) (H:SbG (aV n)) :
  Fun Tryz.prog aO 80 [.slc 0 0 16 n none,.int .i64 (m:Int),.bool w] [(0,⟨.view,aB X⟩)] 1 (AN 1 16 (iE m n w)) (v7 1 24 (aB (pF m n w X)) [] (iE m n w)) (s9 1 (iE m n w)):=by
 rw[Gi h1 h2 hk,Ai h1 h2 hk]
 rw[eL (Nat.succ_pos _),eE (Nat.succ_pos _),eO (Nat.succ_pos _)]
 refine fV Tryz.f80 (by kernel_rfl) (by decide) ?_
 conv in aJ _ _=>(reduce;simp only[aH,seval])
 have kp:=jW n
 have kl:=jI (n:=n) (by omega)
 have fs:=Yz (tS:=aO) n (by omega) (by omega)
 obtain⟨t1,t2,x1,x2⟩:=C7 hX (Nat.le_of_lt kl)
 have F:=H m w (X.take (16 * aV n)) (by omega) (by omega) (by omega)
 have lY:=xR (aV n) m w (X.take (16 * aV n)) (by omega) (by omega)
 have G:=ED (n - aV n) (by omega) (X.drop (16 * aV n)) (by omega)
 have lB:=lF (n - aV n) (X.drop (16 * aV n))
 have hq:=Gr (aV n) m w (by omega) (by omega)
 generalize tN (n - aV n) (X.drop (16 * aV n))=B at *
 generalize pF m (aV n) w (X.take (16 * aV n))=Y at *
 generalize iE m (aV n) w=q at *
 generalize X.take (16 * aV n)=X1 at *
 generalize X.drop (16 * aV n)=X2 at *
 generalize aV n=K at *
 have c1:((m:Int)==(n:Int))=false:=by simp;omega
 have c2:(m:Int)≤(K:Int):=by omega
 have c3:(0:Int)≤(K:Int):=by omega
 have c4:(K:Int)≤(n:Int):=by omega
 have c5:n * 16≤X.length:=by omega
 have c6:K * 16≤X.length:=by omega
 have c7:K * 16+(n - K) * 16≤X.length:=by omega
 have c8:16 * K=K * 16:=Nat.mul_comm _ _
 have c9:16 * (n - K)=(n - K) * 16:=Nat.mul_comm _ _
 have ap:aB Y++aB B=aB (Y++B):=cE _ _
 have lb:(aB B).length=16:=by rw[aA,lB]
 rcases Nat.eq_zero_or_pos q with h0|h0
 ·subst h0
  obtain rfl:Y=[]:=List.length_eq_zero_iff.1 (by omega)
  simp only[mZ,m5,m6] at F
  simp only[c1,NV,↓NP,undef,seval]
  refine aE fs ?_
  simp only[c2,c3,c4,c5,NV,↓NP,seval]
  refine aI [(0,0)] F ?_
  simp only[c3,c4,c5,c6,c8,t1,x1,NV,NJ,↓NP,seval]
  refine aI [(0,K * 16)] G ?_
  simp only[c7,c9,t2,x2,lB,lb,NV,NJ,↓NP,seval]
  exact⟨[(0,0),(2,0)],by simp[aC,NF,seval],by simp[seval]⟩
 ·rw[eL h0,eE h0,eO h0] at F
  have e0:List.take (q * 16) (aB Y)=aB Y:=List.take_of_length_le (by rw[aA];omega)
  have n0:q * 16≤Y.length:=by omega
  simp only[c1,NV,↓NP,undef,seval]
  refine aE fs ?_
  simp only[c2,c3,c4,c5,NV,↓NP,seval]
  refine aI [(0,0)] F ?_
  simp only[c3,c4,c5,c6,c8,t1,x1,NV,NJ,↓NP,seval]
  refine aI [(0,K * 16)] G ?_
  simp only[c7,c9,t2,x2,lB,lb,ap,e0,n0,NV,NJ,↓NP,seval]
  exact⟨by omega,[(0,0),(3,0)],by simp[aC,NF,seval],by simp[seval]⟩
theorem sbM (n m:Nat) (w:Bool) (X:List UInt8) (h1:1≤m) (h2:m < n) (hn:n≤1000) (hX:X.length=16 * n) (hk:¬ m≤aV n) (H:SbG (n - aV n)) :
  Fun Tryz.prog aO 80 [.slc 0 0 16 n none,.int .i64 (m:Int),.bool w] [(0,⟨.view,aB X⟩)] 1 (AN 1 16 (iE m n w)) (v7 1 24 (aB (pF m n w X)) [] (iE m n w)) (s9 1 (iE m n w)):=by
 rw[Gj h1 h2 hk,Aj h1 h2 hk]
 rw[eL (Nat.succ_pos _),eE (Nat.succ_pos _),eO (Nat.succ_pos _)]
 refine fV Tryz.f80 (by kernel_rfl) (by decide) ?_
 conv in aJ _ _=>(reduce;simp only[aH,seval])
 have kp:=jW n
 have kl:=jI (n:=n) (by omega)
 have fs:=Yz (tS:=aO) n (by omega) (by omega)
 obtain⟨t1,t2,x1,x2⟩:=C7 hX (Nat.le_of_lt kl)
 have F:=H (m - aV n) false (X.drop (16 * aV n)) (by omega) (by omega) (by omega)
 have lY:=xR (n - aV n) (m - aV n) false (X.drop (16 * aV n)) (by omega) (by omega)
 have G:=ED (aV n) (by omega) (X.take (16 * aV n)) (by omega)
 have lB:=lF (aV n) (X.take (16 * aV n))
 have hq:=Gr (n - aV n) (m - aV n) false (by omega) (by omega)
 generalize tN (aV n) (X.take (16 * aV n))=B at *
 generalize pF (m - aV n) (n - aV n) false (X.drop (16 * aV n))=Y at *
 generalize iE (m - aV n) (n - aV n) false=q at *
 generalize X.take (16 * aV n)=X1 at *
 generalize X.drop (16 * aV n)=X2 at *
 generalize aV n=K at *
 have c1:((m:Int)==(n:Int))=false:=by simp;omega
 have c2:¬ (m:Int)≤(K:Int):=by omega
 have c3:(0:Int)≤(K:Int):=by omega
 have c4:(K:Int)≤(n:Int):=by omega
 have c5:n * 16≤X.length:=by omega
 have c6:K * 16≤X.length:=by omega
 have c7:K * 16+(n - K) * 16≤X.length:=by omega
 have c8:16 * K=K * 16:=Nat.mul_comm _ _
 have c9:16 * (n - K)=(n - K) * 16:=Nat.mul_comm _ _
 have ap:aB Y++aB B=aB (Y++B):=cE _ _
 have lb:(aB B).length=16:=by rw[aA,lB]
 have w1:IntKind.i64.wrap ((m:Int) - (K:Int))=((m - K:Nat):Int):=by rw[aD (by omega) (by omega)];omega
 rcases Nat.eq_zero_or_pos q with h0|h0
 ·subst h0
  obtain rfl:Y=[]:=List.length_eq_zero_iff.1 (by omega)
  simp only[mZ,m5,m6] at F
  simp only[c1,NV,↓NP,undef,seval]
  refine aE fs ?_
  simp only[c2,c3,c4,c5,w1,NV,↓NP,seval]
  refine aI [(0,K * 16)] F ?_
  simp only[c3,c4,c5,c7,c9,t2,x2,NV,NJ,↓NP,seval]
  refine aI [(0,0)] G ?_
  simp only[c6,c8,t1,x1,lB,lb,NV,NJ,↓NP,seval]
  exact⟨[(0,0),(2,0)],by simp[aC,NF,seval],by simp[seval]⟩
 ·rw[eL h0,eE h0,eO h0] at F
  have e0:List.take (q * 16) (aB Y)=aB Y:=List.take_of_length_le (by rw[aA];omega)
  have n0:q * 16≤Y.length:=by omega
  simp only[c1,NV,↓NP,undef,seval]
  refine aE fs ?_
  simp only[c2,c3,c4,c5,w1,NV,↓NP,seval]
  refine aI [(0,K * 16)] F ?_
  simp only[c3,c4,c5,c7,c9,t2,x2,NV,NJ,↓NP,seval]
  refine aI [(0,0)] G ?_
  simp only[c6,c8,t1,x1,lB,lb,ap,e0,n0,NV,NJ,↓NP,seval]
  exact⟨by omega,[(0,0),(3,0)],by simp[aC,NF,seval],by simp[seval]⟩
theorem ZF:∀ n,n≤1000→SbG n:=by
 intro n
 induction n using Nat.strongRecOn with
 | ind n ih=>
  intro hn m w X h1 h2 hX
  by_cases hmn:m=n
  ·subst hmn
   cases w with
   | true=>rw[Gk,mZ,m5,m6];exact sbW m X
   | false=>rw[Gl,Jz];exact sbR m X hX hn
  ·have kp:=jW n
   have kl:=jI (n:=n) (by omega)
   by_cases hk:m≤aV n
   ·exact sbL n m w X h1 (by omega) hn hX hk (ih _ kl (by omega))
   ·exact sbM n m w X h1 (by omega) hn hX hk (ih _ (by omega) (by omega))
theorem ABw (n:Nat) (X:List UInt8):Fun Tryz.prog aO 34 [.slc 0 0 16 n none,.int .i64 0] [(0,⟨.view,aB X⟩)] 1 (.tup [.val (.slice none 0 0),.int .i64 11]) [] 1:=by
 refine fV Tryz.f34 (by kernel_rfl) (by decide) ?_
 conv in aJ _ _=>(reduce;simp only[aH,seval])
 simp only[NV,↓NP,undef,seval]
 exact⟨[(0,0)],by simp[NF]⟩
theorem h34 (n m:Nat) (X:List UInt8) (h1:1≤m) (h2:m≤n) (hn:n≤1000) (hX:X.length=16 * n) :
  Fun Tryz.prog aO 34 [.slc 0 0 16 n none,.int .i64 (m:Int)] [(0,⟨.view,aB X⟩)] 1 (.tup [AN 1 16 (iE m n true),.int .i64 0]) (v7 1 24 (aB (pF m n true X)) [] (iE m n true)) (s9 1 (iE m n true)):=by
 refine fV Tryz.f34 (by kernel_rfl) (by cases iE m n true <;> simp[s9]) ?_
 conv in aJ _ _=>(reduce;simp only[aH,seval])
 have F:=ZF n hn m true X h1 h2 hX
 have c1:¬ (m:Int) < 1:=by omega
 have c2:¬ (m:Int) > (n:Int):=by omega
 generalize pF m n true X=Y at *
 generalize iE m n true=q at *
 rcases Nat.eq_zero_or_pos q with h0|h0
 ·subst h0
  simp only[mZ,m5,m6] at F ⊢
  simp only[c1,c2,NV,↓NP,seval]
  refine aI [(0,0)] F ?_
  simp only[NV,NJ,↓NP,seval]
  exact⟨[(0,0)],by simp[NF]⟩
 ·rw[eL h0,eE h0,eO h0] at F ⊢
  simp only[c1,c2,NV,↓NP,seval]
  refine aI [(0,0)] F ?_
  simp only[aC,NV,NJ,↓NP,seval]
  exact⟨[(0,0),(1,0)],by simp[aC,NF,seval],by simp[seval]⟩
theorem Qo {R O:List UInt8} {l:List SV} (hR:R.length=16) (hO:O.length=16):aF (aB R++l) 0 (aB O)=aB O++l:=by
 unfold aF
 rw[List.take_zero,List.nil_append,Nat.zero_add,List.drop_left' (by rw[aA,aA,hR,hO])]
theorem Tm {O:List UInt8} (hO:O.length=16):aF (List.replicate 16 (.int .u8 0)++[.str []]) 0 (aB O)=aB O++[.str []]:=Qo (R:=bY) rfl hO
theorem Qp {s t:Int} (h1:0≤s∧s≤60) (h2:0≤t∧t≤200000):nT [109] s t []=true:=by
 refine decide_eq_true ⟨by decide,by decide,by decide,?_⟩
 omega
theorem ZG {k n a b:Nat} {A B:List UInt8} {ok:Bool} (hk:k≤n) (hn:n≤60) (ha:a < 65536) (hb:b < 65536) (zA:k=0→A=dE 1 []) (zB:n=0→B=dE 1 []) (h:k=0∨ok=true) :
  z4 [109] (k:Int) (a:Int) A [] [109] (n:Int) ((a+b:Nat):Int) B [] ok=0:=by
 unfold z4
 rw[Qp ⟨by omega,by omega⟩ ⟨by omega,by omega⟩,Qp ⟨by omega,by omega⟩ ⟨by omega,by omega⟩,if_neg (by simp;omega),if_neg (by omega),if_neg]
 ·by_cases z:(k:Int)=0
  ·rw[if_pos z]
  ·rw[if_neg z,if_pos (h.resolve_left (by omega))]
 ·rintro (⟨h1,h2⟩|⟨h1,h2⟩)
  ·exact h2 (zA (by omega))
  ·exact h2 (zB (by omega))
theorem ZH {n t:Nat} {A B:List UInt8} {ok:Bool} (hn:n≤60) (ht:t≤200000) (h0:n=0→A≠dE 1 []∨B≠dE 1 []) (h:ok=false) :
  z4 [109] (n:Int) (t:Int) A [] [109] (n:Int) (t:Int) B [] ok=7:=by
 unfold z4
 rw[Qp ⟨by omega,by omega⟩ ⟨by omega,by omega⟩,if_neg (by simp),if_neg (by omega)]
 by_cases z:(n:Int)=0
 ·rw[if_pos]
  rcases h0 (by omega) with h|h
  ·exact .inl ⟨z,h⟩
  ·exact .inr ⟨z,h⟩
 ·rw[if_neg (by rintro (⟨h1,_⟩|⟨h1,_⟩) <;> exact z h1),if_neg z,if_neg (by rw[h];decide)]
theorem Tn {k n a:Nat} {A B:List UInt8} {ok:Bool} (hk:k≤n) (hn:n≤60) (ha:a < 65536) :
  z4 [109] (k:Int) (a:Int) A [] [109] (n:Int) ((a:Int) - 1) B [] ok=if a=0 then 1 else 20:=by
 unfold z4
 by_cases z:a=0
 ·subst z
  rw[if_pos rfl,if_pos]
  refine .inr (.inl ?_)
  refine decide_eq_false ?_
  rintro⟨_,_,_,_,_,h,_⟩
  exact absurd h (by decide)
 ·rw[if_neg z,Qp ⟨by omega,by omega⟩ ⟨by omega,by omega⟩,Qp ⟨by omega,by omega⟩ ⟨by omega,by omega⟩,if_neg (by simp;omega),if_pos (by omega)]
theorem Vl {m n:Nat} (h1:1≤m) (h2:m≤n) (h:iE m n true=0):m=n:=by
 by_cases hmn:m=n
 ·exact hmn
 ·by_cases hk:m≤aV n
  ·rw[Ai h1 (by omega) hk] at h;omega
  ·rw[Aj h1 (by omega) hk] at h;omega
theorem h8 (X Q O:List UInt8) (n c m0 a b:Nat) (hX:X.length=16 * n) (hQ:Q.length=16 * c) (hO:O.length=16) (hm:m0 < 256) (ha:a < 65536) (hb:b < 65536) :
  Fun Tryz.prog aO 8 [.slc 0 0 16 n none,.int .u8 (m0:Int),.agg [.int .u16 (a:Int),.int .u16 (b:Int)],.agg (aB O),.slc 1 0 16 c none] [(0,⟨.view,aB X⟩),(1,⟨.view,aB Q⟩)] 2 (.bool true) [] 2:=by
 refine dK Tryz.f8 (by kernel_rfl) (fun _=>rfl) ?_
 conv in aJ _ _=>(reduce;simp only[aH,UInt8.reduceOfNat,Int.reduceOfNat,Int.reduceNegSucc])
 by_cases Vs:(n:Int) > 60
 ·simp (maxSteps:=1000000) only [NV,↓NP,reduceCtorEq,Nat.reduceEqDiff,Nat.reduceAdd,↓reduceIte]
  refine aE h9 ?_
  simp (maxSteps:=1000000) only [Vs,NV,↓NP,undef,reduceCtorEq,Nat.reduceEqDiff,↓reduceIte]
 by_cases YS:(c:Int) > 70
 ·simp (maxSteps:=1000000) only [NV,↓NP,reduceCtorEq,Nat.reduceEqDiff,Nat.reduceAdd,↓reduceIte]
  refine aE h9 ?_
  simp (maxSteps:=1000000) only [Vs,YS,NV,↓NP,reduceCtorEq,Nat.reduceEqDiff,↓reduceIte]
 have w1:IntKind.i64.wrap (m0:Int)=(m0:Int):=Aa (by omega)
 have w2:IntKind.i64.wrap ((n:Int)+1)=((n+1:Nat):Int):=by rw[aD (by omega) (by omega)];omega
 have w3:(m0:Int).tmod ((n+1:Nat):Int)=((m0 % (n+1):Nat):Int):=rfl
 have w4:IntKind.i64.wrap (a:Int)=(a:Int):=Aa (by omega)
 have w5:IntKind.i64.wrap (b:Int)=(b:Int):=Aa (by omega)
 have w6:IntKind.i64.wrap ((a:Int)+(b:Int))=((a+b:Nat):Int):=by rw[aD (by omega) (by omega)];omega
 have w7:IntKind.i64.wrap ((a:Int) - 1)=(a:Int) - 1:=aD (by omega) (by omega)
 have hk:m0 % (n+1)≤n:=Nat.le_of_lt_succ (Nat.mod_lt _ (by omega))
 have e0:¬ ((n+1:Nat):Int)=0:=by omega
 generalize m0 % (n+1)=k at *
 obtain⟨t1,_,x1,_⟩:=C7 hX hk
 have tX:List.take (n * 16) (aB X)=aB X:=List.take_of_length_le (by rw[aA];omega)
 have Fk:=ED k (by omega) _ x1
 have Fn:=ED n (by omega) X hX
 have lA:=lF k (X.take (16 * k))
 have lB:=lF n X
 have kA:k=0→tN k (X.take (16 * k))=dE 1 []:=fun h=>by rw[h,Gh]
 have nB:n=0→tN n X=dE 1 []:=fun h=>by rw[h,Gh]
 have kn:k=n→tN k (X.take (16 * k))=tN n X:=fun h=>by rw[h,List.take_of_length_le (by omega)]
 have vp:1≤k→Mo (tN k (X.take (16 * k))) (tN n X) k n (pF k n true X) (iE k n true)=true:=fun h=>by
  have Lj:n≤2 ^ 32:=by omega
  have:=Vj 32 n k true X (tN k (X.take (16 * k))) h hk Lj hX (fun _=>rfl)
  unfold Mo
  rw[show (33:Nat)=32+1 from rfl,this]
  simp
 have cs:((∃ e:Int,Fun Tryz.prog aO 34 [.slc 0 0 16 n none,.int .i64 (k:Int)] [(0,⟨.view,aB X⟩)] 1 (.tup [.val (.slice none 0 0),.int .i64 e]) [] 1)∧(k=0∨k=n)) ∨
   (1≤k∧(pF k n true X).length=16 * iE k n true∧iE k n true≤60 ∧
    Fun Tryz.prog aO 34 [.slc 0 0 16 n none,.int .i64 (k:Int)] [(0,⟨.view,aB X⟩)] 1 (.tup [.slc 1 0 16 (iE k n true) none,.int .i64 0]) [(1,⟨.own 24,aB (pF k n true X)⟩)] 2):=by
  by_cases h0:k=0
  ·subst h0;exact .inl ⟨⟨11,ABw n X⟩,.inl rfl⟩
  ·have h:=h34 n k X (by omega) hk (by omega) hX
   rcases Nat.eq_zero_or_pos (iE k n true) with q0|q0
   ·rw[q0,mZ,m5,m6] at h
    exact .inl ⟨⟨0,h⟩,.inr (Vl (by omega) hk q0)⟩
   ·rw[eL q0,eE q0,eO q0] at h
    exact .inr ⟨by omega,xR n k true X (by omega) hk,Nat.le_trans (Gr n k true (by omega) hk) (by omega),h⟩
 have kO:=bK 1 []
 generalize tN k (X.take (16 * k))=A at *
 generalize tN n X=B at *
 generalize pF k n true X=Y at *
 generalize iE k n true=q at *
 generalize X.take (16 * k)=X1 at *
 have c1:(0:Int)≤(k:Int):=by omega
 have c2:(k:Int)≤(n:Int):=by omega
 have c3:n * 16≤X.length:=by omega
 have c4:k * 16≤X.length:=by omega
 have c5:16 * k=k * 16:=Nat.mul_comm _ _
 have c6:16 * n=n * 16:=Nat.mul_comm _ _
 have zA:=Tm lA
 have zB:=Tm lB
 have pO:=Qo (l:=[.str []]) lB hO
 simp only[List.replicate_succ,List.replicate_zero,List.cons_append,List.nil_append] at zA zB
 have tkA:=fun x=>cP (x:=x) lA
 have tlA:=fun l=>iD (l:=l) lA
 have flA:=dH A
 have tkB:=fun x=>cP (x:=x) lB
 have tlB:=fun l=>iD (l:=l) lB
 have flB:=dH B
 have tkO:=fun x=>cP (x:=x) hO
 have tlO:=fun l=>iD (l:=l) hO
 have flO:=dH O
 have rt:=fun η (R:List UInt8) x=>mR η R x
 have e8:a=0→(if a=0 then (1:Int) else 20)=1:=fun h=>if_pos h
 have e9:¬ a=0→(if a=0 then (1:Int) else 20)=20:=fun h=>if_neg h
 have qO:=lN hO lB
 -- the proof that does not fit
 have bad:(O==B)=false→∃ E1 E2:Int,(E1==0)=false∧(E2==0)=false ∧
   Fun Tryz.prog aO 25 [.agg (dG [109] (n:Int) ((a+b:Nat):Int) B []),.agg (dG [109] (n:Int) ((a+b:Nat):Int) O []),.slc 0 0 16 c none] [(0,⟨.view,aB Q⟩)] 1 (.int .i64 E1) [] 1 ∧
   Fun Tryz.prog aO 25 [.agg (dG [109] (n:Int) ((a+b:Nat):Int) O []),.agg (dG [109] (n:Int) ((a+b:Nat):Int) B []),.slc 0 0 16 c none] [(0,⟨.view,aB Q⟩)] 1 (.int .i64 E2) [] 1:=fun h=>by
  have hne:O≠B:=by simpa using h
  have g1:=ZP [109] (n:Int) ((a+b:Nat):Int) B [] [109] (n:Int) ((a+b:Nat):Int) O [] _ Q c lB hO (TC B O (n:Int) (n:Int) Q c lB hO hQ (by omega))
  have g2:=ZP [109] (n:Int) ((a+b:Nat):Int) O [] [109] (n:Int) ((a+b:Nat):Int) B [] _ Q c hO lB (TC O B (n:Int) (n:Int) Q c hO lB hQ (by omega))
  rw[ZH (by omega) (by omega) (fun hz=>.inr (fun ho=>hne (ho.trans (nB hz).symm))) (by rw[Gp,show (B==O)=false by simpa using fun h=>hne h.symm,Bool.and_false])] at g1
  rw[ZH (by omega) (by omega) (fun hz=>.inl (fun ho=>hne (ho.trans (nB hz).symm))) (by rw[Gp,h,Bool.and_false])] at g2
  exact⟨7,7,rfl,rfl,g1,g2⟩
 rcases cs with⟨⟨e,F34⟩,hk0⟩|⟨hk1,lY,hq,F34⟩
 ·have F0:∀ t':Int,Fun Tryz.prog aO 25 [.agg (dG [109] (k:Int) (a:Int) A []),.agg (dG [109] (n:Int) t' B []),.val (.slice none 0 0)] [] 0 (.int .i64 (z4 [109] (k:Int) (a:Int) A [] [109] (n:Int) t' B [] true)) [] 0:=fun t'=>by
   refine ABr [109] (k:Int) (a:Int) A [] [109] (n:Int) t' B [] true lA lB fun h1 h2 h3=>?_
   rcases hk0 with h|h
   ·omega
   ·have e:=kn h
    subst e
    subst h
    have:=ABp A A k lA lA (by omega)
    rwa [beq_self_eq_true] at this
  have F1:=F0 ((a+b:Nat):Int)
  have F2:=F0 ((a:Int) - 1)
  rw[ZG hk (by omega) ha hb kA nB (.inr rfl)] at F1
  rw[Tn hk (by omega) ha] at F2
  unfold dG at *
  simp (maxSteps:=1000000) only [NV,↓NP,reduceCtorEq,Nat.reduceEqDiff,Nat.reduceAdd,↓reduceIte]
  refine aE h9 ?_
  simp (maxSteps:=1000000) only [Vs,YS,e0,w1,w2,w3,w4,c1,c2,c3,NV,NJ,↓NP,reduceCtorEq,Nat.reduceEqDiff,Nat.reduceMul,Int.reduceToNat,Int.reduceLT,↓reduceIte]
  refine aI [(0,0)] Fk ?_
  simp (maxSteps:=1000000) only [w4,w5,w6,c4,c5,t1,x1,lA,zA,NV,NJ,↓NP,reduceCtorEq,Nat.reduceEqDiff,Nat.reduceAdd,Nat.reduceSub,Nat.reduceLeDiff,Nat.reduceLT,Int.reduceToNat,Int.reduceLT,Int.reduceLE,↓reduceIte,bC]
  refine aI [(0,0)] Fn ?_
  simp (maxSteps:=1000000) only [lB,zB,NV,NJ,↓NP,reduceCtorEq,Nat.reduceEqDiff,Nat.reduceAdd,Nat.reduceSub,Nat.reduceLeDiff,Nat.reduceLT,↓reduceIte,bC]
  refine aI [(0,0)] F34 ?_
  simp (maxSteps:=1000000) only [lA,lB,tkA,tkB,NV,NJ,↓NP,reduceCtorEq,Nat.reduceEqDiff,Nat.reduceAdd,Nat.reduceSub,Nat.reduceLT,↓reduceIte]
  refine aI [] F1 ?_
  cases hOB:(O==B) with
  | true=>
   rw[hOB] at qO
   simp (maxSteps:=1000000) only [w7,lA,lB,hO,pO,tkA,tkB,tlB,rt,qO,Bool.not_true,NV,NJ,↓NP,undef,Int.reduceBNe,reduceCtorEq,Nat.reduceEqDiff,Nat.reduceAdd,Nat.reduceLeDiff,↓reduceIte,bC]
   refine aI [] F2 ?_
   by_cases a0:a=0
   ·have d1:=e8 a0
    have d2:((a:Int)==0)=true:=by simp;omega
    generalize (if a=0 then (1:Int) else 20)=E at *
    subst d1
    simp (maxSteps:=1000000) only [rt,d2,NV,NJ,↓NP,Int.reduceBEq,Nat.reduceEqDiff,↓reduceIte]
   ·have d1:=e9 a0
    generalize (if a=0 then (1:Int) else 20)=E at *
    subst d1
    simp (maxSteps:=1000000) only [rt,NV,NJ,↓NP,undef,Nat.reduceEqDiff,↓reduceIte]
  | false=>
   rw[hOB] at qO
   obtain⟨E1,E2,d3,d4,g1,g2⟩:=bad hOB
   simp (maxSteps:=1000000) only [lB,hO,pO,tkB,tlB,tkO,rt,qO,Bool.not_false,NV,NJ,↓NP,Int.reduceBNe,reduceCtorEq,Nat.reduceEqDiff,Nat.reduceAdd,Nat.reduceLeDiff,↓reduceIte,bC]
   refine aI [(1,0)] g1 ?_
   simp (maxSteps:=1000000) only [lB,hO,tkB,tkO,rt,d3,NV,NJ,↓NP,reduceCtorEq,Nat.reduceEqDiff,Nat.reduceAdd,Nat.reduceSub,Nat.reduceLT,↓reduceIte]
   refine aI [(1,0)] g2 ?_
   simp (maxSteps:=1000000) only [w7,lA,lB,tkA,tkB,rt,d4,NV,NJ,↓NP,reduceCtorEq,Nat.reduceEqDiff,Nat.reduceAdd,Nat.reduceSub,Nat.reduceLeDiff,Nat.reduceLT,↓reduceIte,bC]
   refine aI [] F2 ?_
   by_cases a0:a=0
   ·have d1:=e8 a0
    have d2:((a:Int)==0)=true:=by simp;omega
    generalize (if a=0 then (1:Int) else 20)=E at *
    subst d1
    simp (maxSteps:=1000000) only [rt,d2,NV,NJ,↓NP,Int.reduceBEq,Nat.reduceEqDiff,↓reduceIte]
   ·have d1:=e9 a0
    generalize (if a=0 then (1:Int) else 20)=E at *
    subst d1
    simp (maxSteps:=1000000) only [rt,NV,NJ,↓NP,undef,Nat.reduceEqDiff,↓reduceIte]
 ·have v1:=vp hk1
  have F0:∀ t':Int,Fun Tryz.prog aO 25 [.agg (dG [109] (k:Int) (a:Int) A []),.agg (dG [109] (n:Int) t' B []),.slc 0 0 16 q none] [(0,⟨.view,aB Y⟩)] 1 (.int .i64 (z4 [109] (k:Int) (a:Int) A [] [109] (n:Int) t' B [] true)) [] 1:=fun t'=>by
   have h:=ZP [109] (k:Int) (a:Int) A [] [109] (n:Int) t' B [] _ Y q lA lB (TC A B (k:Int) (n:Int) Y q lA lB lY (by omega))
   rw[Int.toNat_natCast,Int.toNat_natCast,v1] at h
   exact h
  have F1:=F0 ((a+b:Nat):Int)
  have F2:=F0 ((a:Int) - 1)
  rw[ZG hk (by omega) ha hb kA nB (.inr rfl)] at F1
  rw[Tn hk (by omega) ha] at F2
  have tY:List.take (q * 16) (aB Y)=aB Y:=List.take_of_length_le (by rw[aA];omega)
  have nY:q * 16≤Y.length:=by omega
  unfold dG at *
  simp (maxSteps:=1000000) only [NV,↓NP,reduceCtorEq,Nat.reduceEqDiff,Nat.reduceAdd,↓reduceIte]
  refine aE h9 ?_
  simp (maxSteps:=1000000) only [Vs,YS,e0,w1,w2,w3,w4,c1,c2,c3,NV,NJ,↓NP,reduceCtorEq,Nat.reduceEqDiff,Nat.reduceMul,Int.reduceToNat,Int.reduceLT,↓reduceIte]
  refine aI [(0,0)] Fk ?_
  simp (maxSteps:=1000000) only [w4,w5,w6,c4,c5,t1,x1,lA,zA,aC,NV,NJ,↓NP,reduceCtorEq,Nat.reduceEqDiff,Nat.reduceAdd,Nat.reduceSub,Nat.reduceLeDiff,Nat.reduceLT,Int.reduceToNat,Int.reduceLT,Int.reduceLE,↓reduceIte,bC]
  refine aI [(0,0)] Fn ?_
  simp (maxSteps:=1000000) only [lB,zB,aC,NV,NJ,↓NP,reduceCtorEq,Nat.reduceEqDiff,Nat.reduceAdd,Nat.reduceSub,Nat.reduceLeDiff,Nat.reduceLT,↓reduceIte,bC]
  refine aI [(0,0)] F34 ?_
  simp (maxSteps:=1000000) only [lA,lB,tkA,tkB,aC,NV,NJ,↓NP,reduceCtorEq,Nat.reduceEqDiff,Nat.reduceAdd,Nat.reduceSub,Nat.reduceLT,↓reduceIte]
  refine aI [(6,0)] F1 ?_
  cases hOB:(O==B) with
  | true=>
   rw[hOB] at qO
   simp (maxSteps:=1000000) only [w7,lA,lB,hO,pO,tkA,tkB,tlB,rt,aC,qO,Bool.not_true,NV,NJ,↓NP,undef,Int.reduceBNe,reduceCtorEq,Nat.reduceEqDiff,Nat.reduceAdd,Nat.reduceSub,Nat.reduceLeDiff,Nat.reduceLT,↓reduceIte,bC]
   refine aI [(6,0)] F2 ?_
   by_cases a0:a=0
   ·have d1:=e8 a0
    have d2:((a:Int)==0)=true:=by simp;omega
    generalize (if a=0 then (1:Int) else 20)=E at *
    subst d1
    simp (maxSteps:=1000000) only [rt,aC,d2,NV,NJ,↓NP,Int.reduceBEq,Nat.reduceEqDiff,Nat.reduceSub,Nat.reduceLT,↓reduceIte]
   ·have d1:=e9 a0
    generalize (if a=0 then (1:Int) else 20)=E at *
    subst d1
    simp (maxSteps:=1000000) only [rt,aC,NV,NJ,↓NP,undef,Nat.reduceEqDiff,Nat.reduceSub,Nat.reduceLT,↓reduceIte]
  | false=>
   rw[hOB] at qO
   obtain⟨E1,E2,d3,d4,g1,g2⟩:=bad hOB
   simp (maxSteps:=1000000) only [lB,hO,pO,tkB,tlB,tkO,rt,aC,qO,Bool.not_false,NV,NJ,↓NP,Int.reduceBNe,reduceCtorEq,Nat.reduceEqDiff,Nat.reduceAdd,Nat.reduceSub,Nat.reduceLeDiff,Nat.reduceLT,↓reduceIte,bC]
   refine aI [(1,0)] g1 ?_
   simp (maxSteps:=1000000) only [lB,hO,tkB,tkO,rt,aC,d3,NV,NJ,↓NP,reduceCtorEq,Nat.reduceEqDiff,Nat.reduceAdd,Nat.reduceSub,Nat.reduceLT,↓reduceIte]
   refine aI [(1,0)] g2 ?_
   simp (maxSteps:=1000000) only [w7,lA,lB,tkA,tkB,rt,aC,d4,NV,NJ,↓NP,reduceCtorEq,Nat.reduceEqDiff,Nat.reduceAdd,Nat.reduceSub,Nat.reduceLeDiff,Nat.reduceLT,↓reduceIte,bC]
   refine aI [(6,0)] F2 ?_
   by_cases a0:a=0
   ·have d1:=e8 a0
    have d2:((a:Int)==0)=true:=by simp;omega
    generalize (if a=0 then (1:Int) else 20)=E at *
    subst d1
    simp (maxSteps:=1000000) only [rt,aC,d2,NV,NJ,↓NP,Int.reduceBEq,Nat.reduceEqDiff,Nat.reduceSub,Nat.reduceLT,↓reduceIte]
   ·have d1:=e9 a0
    generalize (if a=0 then (1:Int) else 20)=E at *
    subst d1
    simp (maxSteps:=1000000) only [rt,aC,NV,NJ,↓NP,undef,Nat.reduceEqDiff,Nat.reduceSub,Nat.reduceLT,↓reduceIte]
end Go.Proofs.YtmhkkalbijbplaaGreatDoor
