/- The proof, part Vj: MemA, MemB, MemC, DecA, PlaC, DecB, DecC, DecD, DecE, PlaF. -/
import Derived.Test.YtmhkkalbijbplaaGreatDoorVh
set_option linter.unusedSimpArgs false
set_option linter.unusedVariables false
set_option maxRecDepth 100000
set_option maxHeartbeats 16000000
namespace Go.Proofs.YtmhkkalbijbplaaGreatDoor
open Go Go.Sx
variable {tS:List (Nat × List SV)}
structure Mb where
 name:List UInt8
 pub:List UInt8
 h:Int
 deriving DecidableEq
def Mb.sv (m:Mb):List SV:=.str m.name :: (aB m.pub++[.int .i64 m.h])
def Zw (l:List Mb):Prop:=∀ m∈l,m.pub.length=16
theorem Zw.tail {m:Mb} {l:List Mb} (h:Zw (m :: l)):Zw l:=fun x hx=>h x (List.mem_cons_of_mem _ hx)
theorem ZJ (m:Mb):m.sv[0]?=some (.str m.name):=(rfl)
theorem yI:∀ (d d':List UInt8) (ps:List Tag) (l l':List SV) (b:Bool),d.length=d'.length→eF ps l l'=some b →
  eF (List.replicate d.length (.i .u8)++ps) (aB d++l) (aB d'++l')=some (d==d' && b)
 | [],[],ps,l,l',b,_,h=>by simpa [aB] using h
 | x :: d,y :: d',ps,l,l',b,hl,h=>by
  have ih:=yI d d' ps l l' b (by simpa using hl) h
  have e1:nD (.i .u8) (SV.byte x) (SV.byte y)=some (x==y):=by
   simp only[nD,SV.byte,and_self,if_true]
   congr 1
   rw[Bool.eq_iff_iff]
   simp only[beq_iff_eq]
   constructor
   ·intro h;exact UInt8.toNat_inj.1 (by omega)
   ·rintro rfl;rfl
  simp only[List.length_cons,List.replicate_succ,List.cons_append,aB,List.map_cons,eF,e1]
  rw[show List.map SV.byte d=aB d from rfl,show List.map SV.byte d'=aB d' from rfl,ih]
  simp[Bool.and_assoc]
 | [],_ :: _,_,_,_,_,hl,_=>by simp at hl
 | _ :: _,[],_,_,_,_,hl,_=>by simp at hl
theorem lJ {i s k:Nat} (h:k=0):AN i s k=.val (.slice none 0 0):=by subst h;rfl
theorem jU {i k:Nat} {e:TypeId} {cells:List SV} {m:bL} (h:k=0):v7 i e cells m k=m:=by subst h;rfl
theorem lM {i k:Nat} (h:k=0):s9 i k=i:=by subst h;rfl
theorem eL {i s k:Nat} (h:0 < k):AN i s k=.slc i 0 s k none:=by cases k with|zero=>omega|succ k=>rfl
theorem eE {i k:Nat} {e:TypeId} {cells:List SV} {m:bL} (h:0 < k):v7 i e cells m k=(i,⟨.own e,cells⟩) :: m:=by cases k with|zero=>omega|succ k=>rfl
theorem eO {i k:Nat} (h:0 < k):s9 i k=i+1:=by cases k with|zero=>omega|succ k=>rfl
def qH (h:Nat):Nat:=if h < 128 then 127 - h else h - 128
def vW (h:Nat) (c:UInt8):UInt8:=if h < 128 then UInt8.ofNat (255 - c.toNat) else c
def fC (l:List UInt8):Nat:=l.foldl (fun a c=>a * 256+c.toNat) 0
def cR (b:List UInt8):Int × Nat × Int:=match b with
 | []=>(0,0,5)
 | c :: r=>if qH c.toNat > 8 then (0,0,6) else if r.length < qH c.toNat then (0,0,5) else
  if ((r.take (qH c.toNat)).map (vW c.toNat)).head?=some 0 then (0,0,6) else
  if fC ((r.take (qH c.toNat)).map (vW c.toNat)) ≥ 9223372036854775808 then (0,0,6) else
  ((if c.toNat < 128 then -1 - (fC ((r.take (qH c.toNat)).map (vW c.toNat)):Int) else (fC ((r.take (qH c.toNat)).map (vW c.toNat)):Int)),qH c.toNat+1,0)
def eC (x:Int × Nat × Int):SV:=.tup [.int .i64 x.1,.int .i64 (x.2.1:Int),.int .i64 x.2.2]
theorem FP (l:List UInt8) (c:UInt8):fC (l++[c])=fC l * 256+c.toNat:=by simp[fC]
theorem GY:∀ (l:List UInt8) (a:Nat),l.foldl (fun a c=>a * 256+c.toNat) a < (a+1) * 256 ^ l.length
 | [],a=>by simp
 | c :: l,a=>by
  have:=GY l (a * 256+c.toNat)
  have hc:=c.toNat_lt
  simp only[List.foldl_cons,List.length_cons,Nat.pow_succ]
  have h1:(a * 256+c.toNat+1) * 256 ^ l.length≤(a+1) * 256 * 256 ^ l.length:=Nat.mul_le_mul_right _ (by omega)
  have h2:(a+1) * 256 * 256 ^ l.length=(a+1) * (256 ^ l.length * 256):=by rw[Nat.mul_assoc,Nat.mul_comm 256]
  omega
theorem CQ (l:List UInt8):fC l < 256 ^ l.length:=by have:=GY l 0;unfold fC;omega
theorem SM {m c:Nat} (hm:m < 72057594037927936) (hc:c < 256):dL .or .u64 (IntKind.u64.wrap ((m:Int) * 2 ^ (min 8 IntKind.u64.bits))) (IntKind.u64.wrap (c:Int))=((m * 256+c:Nat):Int):=by
 have e0:min 8 IntKind.u64.bits=8:=by decide
 rw[e0]
 have e1:IntKind.u64.wrap ((m:Int) * 2 ^ 8)=((m * 256:Nat):Int):=by rw[yG];omega
 have e2:IntKind.u64.wrap (c:Int)=(c:Int):=by rw[yG];omega
 rw[e1,e2]
 unfold dL
 simp only
 show IntKind.u64.wrap ((BitVec.ofInt 64 ((m * 256:Nat):Int) ||| BitVec.ofInt 64 (c:Int)).toNat:Int)=_
 rw[BitVec.toNat_or,BitVec.ofInt_natCast,BitVec.ofInt_natCast,BitVec.toNat_ofNat,BitVec.toNat_ofNat,Nat.mod_eq_of_lt (by omega),Nat.mod_eq_of_lt (by omega)]
 have:m * 256 ||| c=m * 256+c:=by
  have:=Nat.shiftLeft_add_eq_or_of_lt (b:=c) (i:=8) (by omega) m
  rw[Nat.shiftLeft_eq] at this
  exact this.symm
 rw[this,yG];omega
theorem VH {h:Nat} (hh:h < 256):qH h < 128:=by unfold qH;split <;> omega
theorem SN {h:Nat} {c:UInt8}:((vW h c).toNat:Int)=dL .xor .u8 (c.toNat:Int) (if h < 128 then 255 else 0):=by
 have hc:=c.toNat_lt
 unfold vW
 by_cases hh:h < 128
 ·rw[if_pos hh,if_pos hh,uN _ (by omega),UInt8.toNat_ofNat'];omega
 ·rw[if_neg hh,if_neg hh,BK _ (by omega)]
def T8 (h:Nat):Int:=if h < 128 then 255 else 0
theorem f59 (b:List UInt8) (hb:b.length≤2 ^ 62) (cap:Option Nat) (hcap:o5 cap b.length) :
  Fun Tryz.prog tS 96 [.slc 0 0 1 b.length cap] [(0,⟨.view,aB b⟩)] 1 (eC (cR b)) [] 1:=by
 refine aR none cF bI Zj (Nat.le_of_ble_eq_true rfl) (by decide) ?_
 conv in aJ _ _=>(reduce;simp only[aH,seval])
 rw[aQ]
 unfold eC
 cases b with
 | nil=>
  have e0:aB ([]:List UInt8)=[]:=rfl
  simp only[BC,↓PC,seval]
  exact⟨[(0,0)],⟨rfl,by simp[aK,aM,aG,b7,BB]⟩,rfl,rfl,rfl⟩
 | cons c r=>
  have hc:=c.toNat_lt
  have g0:(aB (c :: r))[0]?=some (.int .u8 (c.toNat:Int)):=fL rfl
  have hne:((c :: r).length:Int)≠0:=by simp;omega
  have hl:(c :: r).length=r.length+1:=rfl
  have hk:=VH hc
  have hkx:IntKind.i64.wrap (IntKind.i64.wrap (dL .xor .u8 (c.toNat:Int) (T8 c.toNat)) - 128)=(qH c.toNat:Int):=by
   unfold T8 qH
   by_cases hh:c.toNat < 128
   ·rw[if_pos hh,if_pos hh,uN _ (by omega),aD (x:=255 - _) (by omega) (by omega),aD (by omega) (by omega)];omega
   ·rw[if_neg hh,if_neg hh,BK _ (by omega),aD (x:=(c.toNat:Int)) (by omega) (by omega),aD (by omega) (by omega)];omega
  have key:(((c.toNat:Int) < 128)∧T8 c.toNat=255)∨(¬ ((c.toNat:Int) < 128)∧T8 c.toNat=0):=by
   unfold T8
   by_cases hh:c.toNat < 128
   ·left;exact⟨by omega,if_pos hh⟩
   ·right;exact⟨by omega,if_neg hh⟩
  have hlen0:((r.length+1:Nat):Int)≠0:=by omega
  have hb0:(((r.length+1:Nat):Int)==0)=false:=by simpa using hlen0
  have hl1:(0:Int) < ((r.length+1:Nat):Int):=by omega
  have hbl:=aA (c :: r)
  rw[hl] at hbl
  rcases key with⟨k1,k2⟩|⟨k1,k2⟩
  all_goals
   rw[k2] at hkx
   by_cases h8:qH c.toNat > 8
   ·have h8':(qH c.toNat:Int) > 8:=by omega
    have hd:cR (c :: r)=(0,0,6):=by simp only[cR,h8,if_true]
    simp only[hl,hb0,hl1,hbl,g0,k1,hkx,h8',hd,Nat.zero_lt_succ,BC,↓PC,seval]
    exact⟨[(0,0)],rfl,by simp[aK,aM,aG,b7,BB]⟩
   have h8':¬ (qH c.toNat:Int) > 8:=by omega
   by_cases hr:r.length < qH c.toNat
   ·have hr':((r.length+1:Nat):Int)≤(qH c.toNat:Int):=by omega
    have hd:cR (c :: r)=(0,0,5):=by simp only[cR,h8,hr,if_true,if_false]
    simp only[hl,hb0,hl1,hbl,g0,k1,hkx,h8',hr',hd,Nat.zero_lt_succ,BC,↓PC,seval]
    exact⟨[(0,0)],rfl,by simp[aK,aM,aG,b7,BB]⟩
   have hr':¬ ((r.length+1:Nat):Int)≤(qH c.toNat:Int):=by omega
   have hdec:cR (c :: r)=if ((r.take (qH c.toNat)).map (vW c.toNat)).head?=some 0 then (0,0,6) else
     if fC ((r.take (qH c.toNat)).map (vW c.toNat)) ≥ 9223372036854775808 then (0,0,6) else
     ((if c.toNat < 128 then -1 - (fC ((r.take (qH c.toNat)).map (vW c.toNat)):Int) else (fC ((r.take (qH c.toNat)).map (vW c.toNat)):Int)),qH c.toNat+1,0):=by
    simp only[cR,h8,hr,if_false]
   have hfl:∀ y:UInt8,((vW c.toNat y).toNat:Int)=dL .xor .u8 (y.toNat:Int) (T8 c.toNat):=fun y=>SN
   rw[k2] at hfl
   generalize hK:qH c.toNat=K at *
   generalize hD:(r.take K).map (vW c.toNat)=D at *
   have hDl:D.length=K:=by rw[← hD];simp;omega
   by_cases hz:D.head?=some 0
   ·have hd:cR (c :: r)=(0,0,6):=by rw[hdec,if_pos hz]
    obtain⟨y,hy,hy0⟩:∃ y,r[0]?=some y∧vW c.toNat y=0:=by
     rw[← hD] at hz
     cases r with
     | nil=>simp at hz
     | cons y r'=>
      cases K with
      | zero=>simp at hz
      | succ K=>simp at hz;exact⟨y,rfl,hz⟩
    have hK0:(K:Int) > 0:=by
     cases K with
     | zero=>simp at hDl;rw[hDl] at hz;simp at hz
     | succ K=>omega
    have g1:(aB (c :: r))[1]?=some (.int .u8 (y.toNat:Int)):=fL (by simpa using hy)
    have h0:=hfl y
    rw[hy0] at h0
    have h0:dL .xor .u8 (y.toNat:Int) _=0:=h0.symm
    have hl2:(1:Int) < ((r.length+1:Nat):Int):=by omega
    have hl3:1 < r.length+1:=by omega
    simp only[hl,hb0,hl1,hl2,hl3,hbl,g0,g1,h0,k1,hkx,h8',hr',hK0,hd,Nat.zero_lt_succ,BC,↓PC,seval]
    exact⟨[(0,0)],rfl,by simp[aK,aM,aG,b7,BB]⟩
   have wK:IntKind.i64.wrap ((K:Int)+1)=((K+1:Nat):Int):=by rw[aD (by omega) (by omega)];omega
   by_cases hK0:(K:Int) > 0
   case' pos=>
    obtain⟨y,hy⟩:∃ y,r[0]?=some y:=⟨_,List.getElem?_eq_getElem (by omega)⟩
    have g1:(aB (c :: r))[1]?=some (.int .u8 (y.toNat:Int)):=fL (by simpa using hy)
    have hhd:D.head?=some (vW c.toNat y):=by
     rw[← hD]
     cases r with
     | nil=>simp at hy
     | cons y' r'=>
      simp at hy
      obtain⟨K',rfl⟩:∃ K',K=K'+1:=⟨K - 1,by omega⟩
      rw[← hy];simp
    have h0:(dL .xor .u8 (y.toNat:Int) (T8 c.toNat)==0)=false:=by
     rw[beq_eq_false_iff_ne,k2,← hfl y]
     intro h
     apply hz
     rw[hhd]
     congr 1
     exact UInt8.toNat_inj.1 (by simpa using h)
    rw[k2] at h0
    have hl2:(1:Int) < ((r.length+1:Nat):Int):=by omega
    have hl3:1 < r.length+1:=by omega
    simp only[hl,hb0,hl1,hl2,hl3,hbl,g0,g1,h0,k1,hkx,h8',hr',hK0,wK,Nat.add_sub_cancel,Nat.zero_lt_succ,BC,↓PC,seval]
    refine⟨by cases cap with
     | none=>trivial
     | some q=>exact hcap q rfl,by omega,by omega,?_⟩
   case' neg=>
    simp only[hl,hb0,hl1,hbl,g0,k1,hkx,h8',hr',hK0,wK,Nat.add_sub_cancel,Nat.zero_lt_succ,undef,BC,↓PC,seval]
    refine⟨by cases cap with
     | none=>trivial
     | some q=>exact hcap q rfl,by omega,by omega,?_⟩
   all_goals
    rw[aL]
    refine bF bI (σ:=Nat) (fun i=>[(48,.int .i64 (i:Int)),(47,.int .i64 (K:Int)),(46,.slc 0 1 1 K (cap.map (fun x=>x - 1))),(7,.int .u64 (fC (D.take i):Int)),(6,.int .i64 (K:Int)),(5,.int .u8 (T8 c.toNat))])
     (fun _=>[(0,⟨.view,aB (c :: r)⟩)]) (fun _=>1) (fun i=>i≤K) (fun i=>K - i) 0 ⟨[(0,0)],by simp[BC,seval],by simp[k2,fC,BC,seval]⟩ (Nat.zero_le _) ?_
    intro i hi
    rw[k2]
    by_cases hiK:i < K
    ·have d1:(i:Int) < (K:Int):=by omega
     have d2:(0:Int)≤(i:Int):=by omega
     have wi:IntKind.i64.wrap ((i:Int)+1)=((i+1:Nat):Int):=by rw[aD (by omega) (by omega)];omega
     obtain⟨y,hy⟩:∃ y,r[i]?=some y:=⟨_,List.getElem?_eq_getElem (by omega)⟩
     have gy:(aB (c :: r))[1+i]?=some (.int .u8 (y.toNat:Int)):=fL (by rw[Nat.add_comm,List.getElem?_cons_succ];exact hy)
     have hDi:D[i]?=some (vW c.toNat y):=by
      rw[← hD,List.getElem?_map,List.getElem?_take_of_lt hiK,hy];rfl
     have hv:fC (D.take (i+1))=fC (D.take i) * 256+(vW c.toNat y).toNat:=by
      rw[List.take_add_one,hDi];exact FP _ _
     have hlt:fC (D.take i) < 72057594037927936:=by
      have h1:=CQ (D.take i)
      have h2:256 ^ (D.take i).length≤256 ^ 7:=Nat.pow_le_pow_right (by decide) (by simp;omega)
      have h3:(256:Nat) ^ 7=72057594037927936:=by decide
      omega
     have hor:=SM hlt (vW c.toNat y).toNat_lt
     rw[hfl y,← hv] at hor
     have q1:1+i < r.length+1:=by omega
     simp only[hbl,gy,d1,d2,q1,wi,hor,BC,↓PC,seval]
     exact⟨i+1,⟨[(0,0)],by simp[BC,seval],by simp[BC,seval]⟩,by omega,by omega⟩
    ·obtain rfl:i=K:=by omega
     have d1:¬ (i:Int) < (i:Int):=by omega
     rw[show D.take i=D from List.take_of_length_le (by omega)]
     simp only[d1,BC,↓PC,seval]
     have hm:=CQ D
     have hm8:fC D < 18446744073709551616:=by
      have h2:256 ^ D.length≤256 ^ 8:=Nat.pow_le_pow_right (by decide) (by omega)
      have h3:(256:Nat) ^ 8=18446744073709551616:=by decide
      omega
     have e63:min 63 IntKind.u64.bits=63:=by decide
     have hsh:((fC D:Int).fdiv (2 ^ min 63 IntKind.u64.bits) > 0)↔fC D ≥ 9223372036854775808:=by
      rw[e63]
      have:((fC D:Int)).fdiv (2 ^ 63)=((fC D / 9223372036854775808:Nat):Int):=(Int.ofNat_fdiv _ _).symm
      rw[this]
      omega
     constructor
     ·intro h1
      have h1:=hsh.1 (of_decide_eq_true h1)
      have hd:cR (c :: r)=(0,0,6):=by rw[hdec,if_neg hz,if_pos h1]
      rw[hd]
      exact⟨[(0,0)],⟨rfl,by simp[aK,aM,aG,b7,BB]⟩,rfl,rfl,rfl⟩
     ·intro h1
      have h1:¬ fC D ≥ 9223372036854775808:=fun h=>of_decide_eq_false h1 (hsh.2 h)
      refine⟨[(0,0)],⟨rfl,by simp[aK,aM,aG,b7,BB]⟩,?_⟩
      rw[hdec,if_neg hz,if_neg h1]
      first
       | (rw[if_pos (show c.toNat < 128 by omega),FD]
          exact⟨by rw[IntKind.wrap];simp[IntKind.bits,IntKind.signed];omega,wK,rfl⟩)
       | (rw[if_neg (show ¬ c.toNat < 128 by omega)]
          exact⟨aD (by omega) (by omega),wK,rfl⟩)
def nR:GS
 | [.slc 0 0 1 len cap],[(0,⟨.view,cells⟩)]=>match rQ cells with
  | some b=>if len=b.length∧b.length≤2 ^ 40 then (match jO cap b.length with
   | true=>some (eC (cR b),[],1)
   | false=>none) else none
  | none=>none
 | _,_=>none
theorem Dk:dQ Tryz.prog tS 96 nR:=by
 intro a0 m0 r m1 n1 h
 unfold nR at h
 split at h
 ·split at h
  ·rename_i b hb
   split at h
   ·rename_i hc
    split at h
    ·rename_i hcap
     cases h
     obtain⟨rfl,h1⟩:=hc
     rw[b8 hb]
     exact⟨f59 b (by omega) _ (nM hcap),by simp[dA]⟩
    ·cases h
   ·cases h
  ·cases h
 ·cases h
def Ie:List UInt8→Nat
 | []=>0
 | c :: l=>Ie l * 256+c.toNat
theorem VI (l:List UInt8):fC l=Ie l.reverse:=by
 unfold fC
 rw[List.foldl_eq_foldr_reverse]
 generalize l.reverse=q
 induction q with
 | nil=>rfl
 | cons c q ih=>simp only[List.foldr_cons,Ie,ih]
theorem Ig:∀ (l:List UInt8) (j:Nat) (c:UInt8),l[j]?=some c→ER (Ie l) j=c.toNat
 | [],j,c,h=>by simp at h
 | x :: l,0,c,h=>by
  simp at h;subst h
  have:=x.toNat_lt
  simp only[Ie,ER,Nat.pow_zero,Nat.div_one];omega
 | x :: l,j+1,c,h=>by
  have hx:=x.toNat_lt
  rw[AY,show Ie (x :: l) / 256=Ie l by simp only[Ie];omega]
  exact Ig l j c (by simpa using h)
theorem Ih {l:List UInt8} {i:Nat} {c:UInt8} (hi:l[i]?=some c):ER (fC l) (l.length - 1 - i)=c.toNat:=by
 have hl:i < l.length:=(List.getElem?_eq_some_iff.1 hi).1
 rw[VI]
 apply Ig
 rw[List.getElem?_reverse (by omega)]
 rw[show l.length - 1 - (l.length - 1 - i)=i by omega]
 exact hi
theorem Pm {c:UInt8} {l:List UInt8} (h:c≠0):256 ^ l.length≤fC (c :: l):=by
 have hf:∀ (l:List UInt8) (a:Nat),a * 256 ^ l.length≤l.foldl (fun a c=>a * 256+c.toNat) a:=by
  intro l
  induction l with
  | nil=>intro a;simp
  | cons x l ih=>
   intro a
   have:=ih (a * 256+x.toNat)
   simp only[List.foldl_cons,List.length_cons,Nat.pow_succ]
   have h1:a * (256 ^ l.length * 256)≤(a * 256+x.toNat) * 256 ^ l.length:=by
    rw[Nat.mul_comm (256 ^ l.length) 256,← Nat.mul_assoc];exact Nat.mul_le_mul_right _ (by omega)
   omega
 have h0:1≤c.toNat:=by
  rcases Nat.eq_zero_or_pos c.toNat with h1|h1
  ·exact absurd (UInt8.toNat_inj.1 (by simpa using h1)) h
  ·exact h1
 unfold fC
 simp only[List.foldl_cons,Nat.zero_mul,Nat.zero_add]
 have:=hf l c.toNat
 have h1:1 * 256 ^ l.length≤c.toNat * 256 ^ l.length:=Nat.mul_le_mul_right _ h0
 omega
theorem Md {l:List UInt8}:fC (0 :: l) < 256 ^ l.length:=by
 have:=GY l 0
 unfold fC
 simp only[List.foldl_cons]
 simpa using this
def BR (c:UInt8) (D:List UInt8):Int:=if c.toNat < 128 then -1 - (fC D:Int) else (fC D:Int)
theorem vO {c:UInt8} {D:List UInt8} (h:fC D < 9223372036854775808):kJ (BR c D)∧jT (BR c D)=fC D∧(BR c D < 0↔c.toNat < 128):=by
 unfold BR jT kJ
 by_cases hc:c.toNat < 128
 ·simp only[hc,if_true]
  rw[if_pos (by omega)]
  exact⟨by omega,by omega,by simp;omega⟩
 ·simp only[hc,if_false]
  rw[if_neg (by omega)]
  exact⟨by omega,by omega,by simp⟩
theorem SO {h:Nat} {y:UInt8}:UInt8.ofNat (if h < 128 then 255 - (vW h y).toNat else (vW h y).toNat)=y:=by
 have hy:=y.toNat_lt
 apply UInt8.toNat_inj.1
 unfold vW
 by_cases hh:h < 128
 ·simp only[hh,if_true,UInt8.toNat_ofNat'];omega
 ·simp only[hh,if_false,UInt8.toNat_ofNat'];omega
theorem Dl {c:UInt8} {r:List UInt8} (h8:qH c.toNat≤8) (hr:qH c.toNat≤r.length) (hz:((r.take (qH c.toNat)).map (vW c.toNat)).head?≠some 0)
  (hv:fC ((r.take (qH c.toNat)).map (vW c.toNat)) < 9223372036854775808):aP (BR c ((r.take (qH c.toNat)).map (vW c.toNat)))=c :: r.take (qH c.toNat):=by
 obtain⟨hn,hm,hs⟩:=vO (c:=c) hv
 obtain⟨K,h1,h2,h3,h4⟩:=zO hn
 rw[h4]
 rw[hm] at h2 h3
 have hcl:=c.toNat_lt
 generalize hk:qH c.toNat=k at *
 generalize hD:(r.take k).map (vW c.toNat)=D at *
 have hDl:D.length=k:=by rw[← hD];simp;omega
 have hK:K=k:=by
  have hlt:=CQ D
  rw[hDl] at hlt
  cases D with
  | nil=>
   simp at hDl
   rcases h3 with h3|h3
   ·omega
   ·have:0 < 256 ^ (K - 1):=Nat.pow_pos (by decide)
    simp[fC] at h3
  | cons d D=>
   have hd:d≠0:=by intro h;apply hz;simp[h]
   have htop:=Pm (l:=D) hd
   simp at hDl
   rcases Nat.lt_trichotomy K k with hlt2|rfl|hgt
   ·have:256 ^ K≤256 ^ D.length:=Nat.pow_le_pow_right (by decide) (by omega)
    omega
   ·rfl
   ·rcases h3 with h3|h3
    ·omega
    ·have:256 ^ k≤256 ^ (K - 1):=Nat.pow_le_pow_right (by decide) (by omega)
     omega
 subst hK
 congr 1
 ·apply UInt8.toNat_inj.1
  have hkk:qH c.toNat=K:=hk
  unfold qH at hkk
  by_cases hc:c.toNat < 128
  ·rw[if_pos (hs.2 hc),UInt8.toNat_ofNat']
   rw[if_pos hc] at hkk;omega
  ·rw[if_neg (fun h=>hc (hs.1 h)),UInt8.toNat_ofNat']
   rw[if_neg hc] at hkk;omega
 ·apply List.ext_getElem?
  intro i
  by_cases hi:i < K
  ·obtain⟨y,hy⟩:∃ y,r[i]?=some y:=⟨_,List.getElem?_eq_getElem (by omega)⟩
   have hDi:D[i]?=some (vW c.toNat y):=by
    rw[← hD,List.getElem?_map,List.getElem?_take_of_lt hi,hy];rfl
   have hb:=Ih hDi
   rw[hDl] at hb
   rw[List.getElem?_take_of_lt hi,hy,List.getElem?_map,List.getElem?_reverse (by simpa using hi),List.length_range,List.getElem?_range (by omega)]
   simp only[Option.map_some,Option.some.injEq]
   rw[hm,hb]
   have:=SO (h:=c.toNat) (y:=y)
   by_cases hc:c.toNat < 128
   ·rw[if_pos (hs.2 hc)];rw[if_pos hc] at this;exact this
   ·rw[if_neg (fun h=>hc (hs.1 h))];rw[if_neg hc] at this;exact this
  ·rw[List.getElem?_eq_none (by simp;omega),List.getElem?_eq_none (by simp;omega)]
theorem Ii {c:UInt8} {D:List UInt8} (hz:D.head?=some 0) (hv:fC D < 9223372036854775808):(aP (BR c D)).length≠D.length+1:=by
 obtain⟨hn,hm,hs⟩:=vO (c:=c) hv
 obtain⟨K,h1,h2,h3,h4⟩:=zO hn
 rw[h4]
 rw[hm] at h3
 cases D with
 | nil=>simp at hz
 | cons d D=>
  simp at hz
  subst hz
  have htop:=Md (l:=D)
  simp only[List.length_cons,List.length_map,List.length_reverse,List.length_range]
  intro he
  rcases h3 with h3|h3
  ·omega
  ·rw[show K - 1=D.length by omega] at h3;omega
theorem vP {n:Int} (h:kJ n) (q:List UInt8):cR (aP n++q)=(n,(aP n).length,0):=by
 obtain⟨K,h1,h2,h3,h4⟩:=zO h
 have hm:=GE h
 rw[h4,List.cons_append]
 generalize hT:(List.range K).reverse.map (fun j=>UInt8.ofNat (if n < 0 then 255 - ER (jT n) j else ER (jT n) j))=T at *
 have hTl:T.length=K:=by rw[← hT];simp
 generalize hc:UInt8.ofNat (if n < 0 then 127 - K else 128+K)=c at *
 have hcv:c.toNat=if n < 0 then 127 - K else 128+K:=by
  rw[← hc,UInt8.toNat_ofNat'];split <;> omega
 have hk:qH c.toNat=K:=by
  rw[hcv];unfold qH
  by_cases hn:n < 0
  ·rw[if_pos hn,if_pos (by omega)];omega
  ·rw[if_neg hn,if_neg (by omega)];omega
 have hsg:c.toNat < 128↔n < 0:=by
  rw[hcv]
  by_cases hn:n < 0
  ·rw[if_pos hn];exact⟨fun _=>hn,fun _=>by omega⟩
  ·rw[if_neg hn];exact⟨fun h=>by omega,fun h=>absurd h hn⟩
 have htake:(T++q).take K=T:=List.take_left' hTl
 have hDi:∀ i,i < K→(T.map (vW c.toNat))[i]?=some (UInt8.ofNat (ER (jT n) (K - 1 - i))):=by
  intro i hi
  rw[← hT,List.map_map,List.getElem?_map,List.getElem?_reverse (by simpa using hi),List.length_range,List.getElem?_range (by omega)]
  simp only[Option.map_some,Function.comp,Option.some.injEq]
  have hb:=BL (jT n) (K - 1 - i)
  unfold vW
  apply UInt8.toNat_inj.1
  by_cases hn:n < 0
  ·rw[if_pos (hsg.2 hn),if_pos hn]
   simp only[UInt8.toNat_ofNat'];omega
  ·rw[if_neg (fun h=>hn (hsg.1 h)),if_neg hn]
 have hDl:(T.map (vW c.toNat)).length=K:=by simp[hTl]
 have hv:fC (T.map (vW c.toNat))=jT n:=by
  have hlt:=CQ (T.map (vW c.toNat))
  rw[hDl] at hlt
  refine Kk K _ _ hlt h2 fun j hj=>?_
  have:=Ih (hDi (K - 1 - j) (by omega))
  rw[hDl,show K - 1 - (K - 1 - j)=j by omega,UInt8.toNat_ofNat'] at this
  have hb:=BL (jT n) j
  omega
 have hz:(T.map (vW c.toNat)).head?≠some 0:=by
  intro hz
  have hK0:0 < K:=by
   rcases Nat.eq_zero_or_pos K with h0|h0
   ·rw[List.length_eq_zero_iff.1 (hDl.trans h0)] at hz;simp at hz
   ·exact h0
  have h0:=hDi 0 hK0
  rw[← List.head?_eq_getElem?,hz] at h0
  have hb:=BL (jT n) (K - 1 - 0)
  have:=congrArg UInt8.toNat (Option.some.inj h0)
  rw[UInt8.toNat_ofNat'] at this
  have hb0:ER (jT n) (K - 1)=0:=by
   have e0:(0:UInt8).toNat=0:=rfl
   rw[e0,Nat.sub_zero] at this
   have hb':=BL (jT n) (K - 1)
   omega
  rcases h3 with h3|h3
  ·omega
  ·unfold ER at hb0
   have h5:0 < jT n / 256 ^ (K - 1):=Nat.div_pos h3 (Nat.pow_pos (by decide))
   have h6:jT n / 256 ^ (K - 1) < 256:=by
    rw[Nat.div_lt_iff_lt_mul (Nat.pow_pos (by decide)),Nat.mul_comm,← Nat.pow_succ,show (K - 1).succ=K by omega];exact h2
   omega
 simp only[cR,hk,htake]
 rw[if_neg (by omega),if_neg (by simp[hTl]),if_neg hz,hv,if_neg (by omega)]
 simp only[List.length_cons,hTl,Prod.mk.injEq,and_true]
 unfold jT kJ at *
 by_cases hn:n < 0
 ·rw[if_pos (hsg.2 hn),if_pos hn];omega
 ·rw[if_neg (fun h=>hn (hsg.1 h)),if_neg hn];omega
theorem sS {b:List UInt8} {n:Int} {u:Nat} (h:cR b=(n,u,0)):kJ n∧u≤b.length∧b.take u=aP n:=by
 unfold cR at h
 split at h
 ·simp at h
 ·rename_i c r
  split at h
  ·simp at h
  ·split at h
   ·simp at h
   ·split at h
    ·simp at h
    ·split at h
     ·simp at h
     ·rename_i h1 h2 h3 h4
      simp only[Prod.mk.injEq,and_true] at h
      obtain⟨h5,rfl⟩:=h
      have hn:n=BR c ((r.take (qH c.toNat)).map (vW c.toNat)):=h5.symm
      rw[hn,Dl (by omega) (by omega) h3 (by omega)]
      exact⟨(vO (by omega)).1,by simp;omega,by simp⟩
theorem f72 (a b:List UInt8) (ha:a.length≤2 ^ 62) (cap cap':Option Nat) :
  Fun Tryz.prog tS 140 [.slc 0 0 1 a.length cap,.slc 1 0 1 b.length cap'] [(0,⟨.view,aB a⟩),(1,⟨.view,aB b⟩)] 2 (.bool (a==b)) [] 2:=by
 refine aR none cF bI Wr (Nat.le_of_ble_eq_true rfl) (by decide) ?_
 conv in aJ _ _=>(reduce;simp only[aH,seval])
 rw[aQ]
 have hla:=aA a
 have hlb:=aA b
 by_cases hl:a.length=b.length
 ·have e0:((a.length:Int) != (b.length:Int))=false:=by simp[hl]
  simp only[e0,BC,↓PC,seval]
  rw[aL]
  refine bF bI (σ:=Nat) (fun i=>[(5,.int .i64 (i:Int)),(1,.slc 1 0 1 b.length cap'),(0,.slc 0 0 1 a.length cap)])
   (fun _=>[(0,⟨.view,aB a⟩),(1,⟨.view,aB b⟩)]) (fun _=>2) (fun i=>i≤a.length∧a.take i=b.take i) (fun i=>a.length - i) 0 ⟨[(0,0),(1,0)],by simp[BC,seval],by simp[BC,seval]⟩ ⟨Nat.zero_le _,rfl⟩ ?_
  rintro i ⟨hi,he⟩
  by_cases h:i < a.length
  ·have c1:(i:Int) < (a.length:Int):=by omega
   have c1':(i:Int) < (b.length:Int):=by omega
   have c2:(0:Int)≤(i:Int):=by omega
   have h':i < b.length:=by omega
   have wi:IntKind.i64.wrap ((i:Int)+1)=((i+1:Nat):Int):=by rw[aD (by omega) (by omega)];omega
   obtain⟨x,hx⟩:∃ x,a[i]?=some x:=⟨_,List.getElem?_eq_getElem h⟩
   obtain⟨y,hy⟩:∃ y,b[i]?=some y:=⟨_,List.getElem?_eq_getElem h'⟩
   have gx:=fL hx
   have gy:=fL hy
   by_cases hxy:x=y
   ·subst hxy
    have e1:((x.toNat:Int) != (x.toNat:Int))=false:=by simp
    simp only[c1,c1',c2,h,h',wi,gx,gy,e1,BC,↓PC,seval]
    exact⟨i+1,⟨[(0,0),(1,0)],by simp[BC,seval],by simp[BC,seval]⟩,⟨by omega,by rw[List.take_add_one,List.take_add_one,he,hx,hy]⟩,by omega⟩
   ·have e1:((x.toNat:Int) != (y.toNat:Int))=true:=by
     rw[bne_iff_ne]
     intro h
     exact hxy (UInt8.toNat_inj.1 (by omega))
    have hf:(a==b)=false:=by
     rw[beq_eq_false_iff_ne]
     rintro rfl
     rw[hx] at hy
     exact hxy (Option.some.inj hy)
    simp only[c1,c1',c2,h,h',gx,gy,e1,hf,BC,↓PC,seval]
    exact⟨[(0,0),(1,0)],rfl,by simp[aK,aM,aG,b7,BB]⟩
  ·obtain rfl:i=a.length:=by omega
   have c1:¬ (a.length:Int) < (a.length:Int):=by omega
   have hf:(a==b)=true:=by
    rw[List.take_length,hl,List.take_length] at he
    rw[he];simp
   simp only[c1,hf,BC,↓PC,seval]
   exact⟨[(0,0),(1,0)],rfl,by simp[aK,aM,aG,b7,BB]⟩
 ·have e0:((a.length:Int) != (b.length:Int))=true:=by simp;omega
  have hf:(a==b)=false:=by
   rw[beq_eq_false_iff_ne]
   rintro rfl
   exact hl rfl
  simp only[e0,hf,BC,↓PC,seval]
  exact⟨[(0,0),(1,0)],rfl,by simp[aK,aM,aG,b7,BB]⟩
theorem Pn (a b:List UInt8):fC a * 256 ^ b.length≤fC (a++b):=by
 have hf:∀ (l:List UInt8) (a:Nat),a * 256 ^ l.length≤l.foldl (fun a c=>a * 256+c.toNat) a:=by
  intro l
  induction l with
  | nil=>intro a;simp
  | cons x l ih=>
   intro a
   have:=ih (a * 256+x.toNat)
   simp only[List.foldl_cons,List.length_cons,Nat.pow_succ]
   have h1:a * (256 ^ l.length * 256)≤(a * 256+x.toNat) * 256 ^ l.length:=by
    rw[Nat.mul_comm (256 ^ l.length) 256,← Nat.mul_assoc];exact Nat.mul_le_mul_right _ (by omega)
   omega
 have:=hf b (fC a)
 unfold fC at *
 rw[List.foldl_append];exact this
def LE:GS
 | [.slc 0 0 1 len _,.slc 1 0 1 len' _],[(0,⟨.view,cells⟩),(1,⟨.view,cells'⟩)]=>match rQ cells,rQ cells' with
  | some a,some b=>if len=a.length∧len'=b.length∧a.length≤2 ^ 40 then some (.bool (a==b),[],2) else none
  | _,_=>none
 | _,_=>none
theorem Po:dQ Tryz.prog tS 140 LE:=by
 intro a0 m0 r m1 n1 h
 unfold LE at h
 split at h
 ·split at h
  ·rename_i a b ha hb
   split at h
   ·rename_i hc
    obtain⟨rfl,rfl,h1⟩:=hc
    cases h
    rw[b8 ha,b8 hb]
    exact⟨f72 a b (by omega) _ _,by simp[dA]⟩
   ·cases h
  ·cases h
 ·cases h
def SP:List (FuncId × GS):=[(49,uL),(140,LE)]
theorem LF:∀ x∈SP,dQ Tryz.prog tS x.1 x.2:=by
 intro x hx
 simp only[SP,List.mem_cons,List.not_mem_nil,or_false] at hx
 rcases hx with rfl|rfl
 ·exact uM
 ·exact Po
theorem f50 (b:List UInt8) (hb:b.length≤2 ^ 40) (cap:Option Nat) (hcap:o5 cap b.length) :
  Fun Tryz.prog tS 103 [.slc 0 0 1 b.length cap] [(0,⟨.view,aB b⟩)] 1 (eC (cR b)) [] 1:=by
 refine aR none (dR SP cF) (bA LF bI) W2 (Nat.le_of_ble_eq_true rfl) (by decide) ?_
 conv in aJ _ _=>(reduce;simp only[aH,seval])
 rw[aQ]
 unfold eC
 cases b with
 | nil=>
  have e0:aB ([]:List UInt8)=[]:=rfl
  simp only[BC,↓PC,seval]
  exact⟨[(0,0)],⟨rfl,by simp[aK,aM,aG,b7,BB]⟩,rfl,rfl,rfl⟩
 | cons c r=>
  have hc:=c.toNat_lt
  have g0:(aB (c :: r))[0]?=some (.int .u8 (c.toNat:Int)):=fL rfl
  have hl:(c :: r).length=r.length+1:=rfl
  have hb0:(((r.length+1:Nat):Int)==0)=false:=by simp;omega
  have hl1:(0:Int) < ((r.length+1:Nat):Int):=by omega
  have hbl:=aA (c :: r)
  rw[hl] at hbl hb hcap
  have wc:IntKind.i64.wrap (c.toNat:Int)=(c.toNat:Int):=aD (by omega) (by omega)
  by_cases Jj:(c.toNat:Int) < 119
  ·have hd:cR (c :: r)=(0,0,6):=by simp only[cR];rw[if_pos];unfold qH;split <;> omega
   simp only[hl,hb0,hl1,hbl,g0,wc,Jj,hd,Nat.zero_lt_succ,undef,BC,↓PC,seval]
   exact⟨[(0,0)],rfl,by simp[aK,aM,aG,b7,BB]⟩
  by_cases h136:(c.toNat:Int) > 136
  ·have hd:cR (c :: r)=(0,0,6):=by simp only[cR];rw[if_pos];unfold qH;split <;> omega
   simp only[hl,hb0,hl1,hbl,g0,wc,Jj,h136,hd,Nat.zero_lt_succ,BC,↓PC,seval]
   exact⟨[(0,0)],rfl,by simp[aK,aM,aG,b7,BB]⟩
  have h8:qH c.toNat≤8:=by unfold qH;split <;> omega
  have key:(((c.toNat:Int) < 128)∧IntKind.i64.wrap (127 - (c.toNat:Int))=(qH c.toNat:Int)∧c.toNat < 128)∨(¬ ((c.toNat:Int) < 128)∧IntKind.i64.wrap ((c.toNat:Int) - 128)=(qH c.toNat:Int)∧¬ c.toNat < 128):=by
   unfold qH
   by_cases hh:c.toNat < 128
   ·left;rw[if_pos hh];exact⟨by omega,by rw[aD (by omega) (by omega)];omega,hh⟩
   ·right;rw[if_neg hh];exact⟨by omega,by rw[aD (by omega) (by omega)];omega,hh⟩
  have wK:IntKind.i64.wrap ((qH c.toNat:Int)+1)=((qH c.toNat+1:Nat):Int):=by rw[aD (by omega) (by omega)];omega
  have wx:IntKind.i64.wrap ((c.toNat:Int) - 128)=(c.toNat:Int) - 128:=aD (by omega) (by omega)
  rcases key with⟨k1,k2,k3⟩|⟨k1,k2,k3⟩
  all_goals
   by_cases hr:r.length < qH c.toNat
   ·have hr':((r.length+1:Nat):Int) < ((qH c.toNat+1:Nat):Int):=by omega
    have hd:cR (c :: r)=(0,0,5):=by simp only[cR];rw[if_neg (by omega),if_pos hr]
    simp only[hl,hb0,hl1,hbl,g0,wc,Jj,h136,k1,k2,wK,hr',hd,Nat.zero_lt_succ,BC,↓PC,seval]
    exact⟨[(0,0)],rfl,by simp[aK,aM,aG,b7,BB]⟩
   have hr':¬ ((r.length+1:Nat):Int) < ((qH c.toNat+1:Nat):Int):=by omega
   simp only[hl,hb0,hl1,hbl,g0,wc,Jj,h136,k1,k2,wK,hr',Nat.zero_lt_succ,BC,↓PC,seval]
   rw[aL]
   have hk8:=h8
   generalize hK:qH c.toNat=K at *
   generalize hD:(r.take K).map (vW c.toNat)=D at *
   have hDl:D.length=K:=by rw[← hD];simp;omega
   have hdec:cR (c :: r)=if D.head?=some 0 then (0,0,6) else if fC D ≥ 9223372036854775808 then (0,0,6) else (BR c D,K+1,0):=by
    simp only[cR,hK,hD]
    rw[if_neg (by omega),if_neg hr];rfl
   refine bF (bA LF bI) (σ:=Nat) (fun i=>[(8,.int .i64 ((i+1:Nat):Int)),(7,.int .i64 (fC (D.take i):Int)),(6,.int .i64 (K:Int)),(5,.int .i64 (c.toNat:Int)),(0,.slc 0 0 1 (r.length+1) cap)])
    (fun _=>[(0,⟨.view,aB (c :: r)⟩)]) (fun _=>1) (fun i=>i≤K∧fC (D.take i) < 9223372036854775808) (fun i=>K - i) 0 ⟨[(0,0)],by simp[BC,seval],by simp[fC,BC,seval]⟩ ⟨Nat.zero_le _,by simp[fC]⟩ ?_
   rintro i ⟨hi,hlt⟩
   by_cases hiK:i < K
   ·have d1:((i+1:Nat):Int)≤(K:Int):=by omega
    have d2:(0:Int)≤((i+1:Nat):Int):=by omega
    have d3:((i+1:Nat):Int) < ((r.length+1:Nat):Int):=by omega
    have wi:IntKind.i64.wrap (((i+1:Nat):Int)+1)=((i+1+1:Nat):Int):=by rw[aD (by omega) (by omega)];omega
    obtain⟨y,hy⟩:∃ y,r[i]?=some y:=⟨_,List.getElem?_eq_getElem (by omega)⟩
    have hyl:=y.toNat_lt
    have gy:(aB (c :: r))[i+1]?=some (.int .u8 (y.toNat:Int)):=fL (by rw[List.getElem?_cons_succ];exact hy)
    have wy:IntKind.i64.wrap (y.toNat:Int)=(y.toNat:Int):=aD (by omega) (by omega)
    have wy2:IntKind.i64.wrap (255 - (y.toNat:Int))=255 - (y.toNat:Int):=aD (by omega) (by omega)
    have hDi:D[i]?=some (vW c.toNat y):=by
     rw[← hD,List.getElem?_map,List.getElem?_take_of_lt hiK,hy];rfl
    have hv:fC (D.take (i+1))=fC (D.take i) * 256+(vW c.toNat y).toNat:=by
     rw[List.take_add_one,hDi];exact FP _ _
    have hfv:(vW c.toNat y).toNat=if c.toNat < 128 then 255 - y.toNat else y.toNat:=by
     unfold vW
     by_cases hh:c.toNat < 128
     ·rw[if_pos hh,if_pos hh,UInt8.toNat_ofNat'];omega
     ·rw[if_neg hh,if_neg hh]
    have q1:i+1 < r.length+1:=by omega
    by_cases hbig:(fC (D.take i):Int) > 36028797018963967
    ·have hd:cR (c :: r)=(0,0,6):=by
      have hge:fC D ≥ 9223372036854775808:=by
       have h1:=Pn (D.take i) (D.drop i)
       rw[List.take_append_drop] at h1
       have h2:256 ^ 1≤256 ^ (D.drop i).length:=Nat.pow_le_pow_right (by decide) (by simp;omega)
       have h3:36028797018963968 * 256 ^ 1≤fC (D.take i) * 256 ^ (D.drop i).length:=Nat.mul_le_mul (by omega) h2
       omega
      rw[hdec]
      by_cases hz:D.head?=some 0
      ·rw[if_pos hz]
      ·rw[if_neg hz,if_pos hge]
     simp only[hbl,gy,d1,d2,d3,q1,wy,wy2,k1,hbig,hd,BC,↓PC,seval]
     exact⟨[(0,0)],rfl,by simp[aK,aM,aG,b7,BB]⟩
    ·have w1:IntKind.i64.wrap (256 * (fC (D.take i):Int))=256 * (fC (D.take i):Int):=aD (by omega) (by omega)
     have w2:IntKind.i64.wrap (256 * (fC (D.take i):Int)+(255 - (y.toNat:Int)))=256 * (fC (D.take i):Int)+(255 - (y.toNat:Int)):=aD (by omega) (by omega)
     have w3:IntKind.i64.wrap (256 * (fC (D.take i):Int)+(y.toNat:Int))=256 * (fC (D.take i):Int)+(y.toNat:Int):=aD (by omega) (by omega)
     simp only[hbl,gy,d1,d2,d3,q1,wi,wy,wy2,k1,hbig,w1,w2,w3,BC,↓PC,seval]
     have hv2:(fC (D.take (i+1)):Int)=256 * (fC (D.take i):Int)+((vW c.toNat y).toNat:Int):=by rw[hv];omega
     refine⟨i+1,⟨[(0,0)],by simp[BC,seval],?_⟩,⟨by omega,?_⟩,by omega⟩
     ·rw[hv2,hfv]
      simp only[k3,BC,seval]
      try (congr 2;omega)
     ·rw[hv,hfv]
      split <;> omega
   ·obtain rfl:i=K:=by omega
    rw[show D.take i=D from List.take_of_length_le (by omega)] at hlt ⊢
    have d1:¬ ((i+1:Nat):Int)≤(i:Int):=by omega
    obtain⟨hn,hm,hs⟩:=vO (c:=c) hlt
    have hnum:BR c D=if c.toNat < 128 then -1 - (fC D:Int) else (fC D:Int):=rfl
    have wn:IntKind.i64.wrap (-1 - (fC D:Int))=-1 - (fC D:Int):=aD (by omega) (by omega)
    have tk:List.take (i+1) (aB (c :: r))=aB (c :: r.take i):=by
     simp only[aB,List.map_cons,List.take_succ_cons,List.map_take]
    have ltk:(c :: r.take i).length=i+1:=by simp;omega
    have hb40:(yU (BR c D)).length≤2 ^ 40:=by have:=xB (BR c D);omega
    have hfl:=aX (c :: r.take i)
    have hsm:(yU (BR c D)==c :: r.take i)=!(decide (D.head?=some 0)):=by
     rw[← qW hn]
     by_cases hz:D.head?=some 0
     ·have:=Ii (c:=c) hz hlt
      rw[hDl] at this
      rw[decide_eq_true hz,Bool.not_true,beq_eq_false_iff_ne]
      intro h
      rw[h,ltk] at this
      exact this rfl
     ·have:=Dl (c:=c) (r:=r) (by omega) (by omega) (by rw[hK,hD];exact hz) (by rw[hK,hD];exact hlt)
      rw[hK,hD] at this
      rw[decide_eq_false hz,this];simp
    have hdec2:cR (c :: r)=if D.head?=some 0 then (0,0,6) else (BR c D,i+1,0):=by
     rw[hdec]
     by_cases hz:D.head?=some 0
     ·rw[if_pos hz,if_pos hz]
     ·rw[if_neg hz,if_neg hz,if_neg (by omega)]
    simp only[hnum,k3,if_true,if_false] at hsm hb40 hdec2
    have kk:(0:Int)≤((i+1:Nat):Int):=by omega
    have kk2:((i+1:Nat):Int)≤((r.length+1:Nat):Int):=by omega
    have kk3:i+1≤r.length+1:=by omega
    simp only[SP,uL,LE,hbl,d1,k1,wn,wK,tk,ltk,aT,hb40,hfl,hsm,kk,kk2,kk3,oZ,BC,↓PC,seval]
    refine⟨by cases cap with
     | none=>trivial
     | some q=>exact hcap q rfl,?_,?_⟩
    ·intro h
     rw[Bool.not_not] at h
     rw[hdec2,if_pos (of_decide_eq_true h)]
     exact⟨[(0,0)],⟨rfl,by simp[aK,aM,aG,b7,BB]⟩,rfl,rfl,rfl⟩
    ·intro h
     rw[Bool.not_not] at h
     rw[hdec2,if_neg (of_decide_eq_false h)]
     exact⟨[(0,0)],⟨rfl,by simp[aK,aM,aG,b7,BB]⟩,rfl,rfl,rfl⟩
def gU:GS
 | [.slc 0 0 1 len cap],[(0,⟨.view,cells⟩)]=>match rQ cells with
  | some b=>if len=b.length∧b.length≤2 ^ 40 then (match jO cap b.length with
   | true=>some (eC (cR b),[],1)
   | false=>none) else none
  | none=>none
 | _,_=>none
theorem xK:dQ Tryz.prog tS 103 gU:=by
 intro a0 m0 r m1 n1 h
 unfold gU at h
 split at h
 ·split at h
  ·rename_i b hb
   split at h
   ·rename_i hc
    split at h
    ·rename_i hcap
     cases h
     obtain⟨rfl,h1⟩:=hc
     rw[b8 hb]
     exact⟨f50 b h1 _ (nM hcap),by simp[dA]⟩
    ·cases h
   ·cases h
  ·cases h
 ·cases h
theorem sU {b:List UInt8} {n:Int} {u:Nat} {e:Int} (h:cR b=(n,u,e)):(e=0∧kJ n∧u≤b.length∧0 < u)∨(e≠0∧n=0∧u=0):=by
 by_cases he:e=0
 ·subst he
  obtain⟨h1,h2,h3⟩:=sS h
  refine .inl ⟨rfl,h1,h2,?_⟩
  have:=congrArg List.length h3
  simp only[aP,List.length_cons,List.length_take] at this
  omega
 ·refine .inr ⟨he,?_⟩
  unfold cR at h
  split at h
  ·simp at h;exact⟨h.1.symm,h.2.1.symm⟩
  ·split at h
   ·simp at h;exact⟨h.1.symm,h.2.1.symm⟩
   ·split at h
    ·simp at h;exact⟨h.1.symm,h.2.1.symm⟩
    ·split at h
     ·simp at h;exact⟨h.1.symm,h.2.1.symm⟩
     ·split at h
      ·simp at h;exact⟨h.1.symm,h.2.1.symm⟩
      ·simp only[Prod.mk.injEq] at h
       exact absurd h.2.2.symm he
def zS:List (FuncId × GS):=[(96,nR),(103,gU)]
theorem GZ:∀ x∈zS,dQ Tryz.prog tS x.1 x.2:=by
 intro x hx
 simp only[zS,List.mem_cons,List.not_mem_nil,or_false] at hx
 rcases hx with rfl|rfl
 ·exact Dk
 ·exact xK
def fT (b:List UInt8) (s:Nat):Int:=if (cR b).2.2≠0 then (cR b).2.2 else if (cR b).1 < 0 then 6 else if (cR b).1 > (((b.length - (cR b).2.1) / s:Nat):Int) then 5 else 0
def vQ (b:List UInt8) (s:Nat):Int × Nat × Int:=((cR b).1,(cR b).2.1,fT b s)
def rT (b:List UInt8) (s:Nat):Int × Nat × Int:=if fT b s≠0 then (0,0,fT b s) else ((cR b).1,(cR b).2.1,0)
theorem f69 (b:List UInt8) (s:Nat) (hs:1≤s) (hs2:s≤1000) (hb:b.length≤2 ^ 40) :
  Fun Tryz.prog tS 135 [.slc 0 0 1 b.length none,.int .i64 (s:Int)] [(0,⟨.view,aB b⟩)] 1 (eC (vQ b s)) [] 1:=by
 refine aR none (dR zS cF) (bA GZ bI) Wo (Nat.le_of_ble_eq_true rfl) (by decide) ?_
 conv in aJ _ _=>(reduce;simp only[aH,seval])
 rw[aQ]
 unfold eC vQ fT
 have fl:=aX b
 rcases hx:cR b with⟨n,u,e⟩
 simp only
 rcases sU hx with⟨rfl,h1,h2,h3⟩|⟨he,rfl,rfl⟩
 ·have w1:IntKind.i64.wrap ((b.length:Int) - (u:Int))=((b.length - u:Nat):Int):=by rw[aD (by omega) (by omega)];omega
  have w2:IntKind.i64.wrap (((b.length - u:Nat):Int).tdiv (s:Int))=(((b.length - u) / s:Nat):Int):=by
   have e1:((b.length - u:Nat):Int).tdiv (s:Int)=(((b.length - u) / s:Nat):Int):=(Int.ofNat_tdiv _ _).symm
   have:=Nat.div_le_self (b.length - u) s
   rw[e1]
   generalize (b.length - u) / s=q at *
   exact aD (by omega) (by omega)
  have s0:(s:Int)≠0:=by omega
  by_cases hn:n < 0
  ·simp only[zS,nR,aT,hb,fl,jO,hx,eC,hn,BC,↓PC,seval]
   exact⟨[(0,0)],rfl,by simp[aK,aM,aG,b7,BB]⟩
  ·by_cases hq:n > (((b.length - u) / s:Nat):Int)
   ·simp only[zS,nR,aT,hb,fl,jO,hx,eC,hn,hq,w1,w2,BC,↓PC,seval]
    exact⟨s0,[(0,0)],rfl,by simp[aK,aM,aG,b7,BB]⟩
   ·simp only[zS,nR,aT,hb,fl,jO,hx,eC,hn,hq,w1,w2,BC,↓PC,seval]
    exact⟨s0,[(0,0)],rfl,by simp[aK,aM,aG,b7,BB]⟩
 ·have he':(e != 0)=true:=by simpa using he
  simp only[zS,nR,aT,hb,fl,jO,hx,eC,he',BC,↓PC,seval]
  exact⟨[(0,0)],⟨rfl,by simp[aK,aM,aG,b7,BB]⟩,by rw[if_pos he]⟩
theorem f71 (b:List UInt8) (s:Nat) (hs:1≤s) (hs2:s≤1000) (hb:b.length≤2 ^ 40) :
  Fun Tryz.prog tS 115 [.slc 0 0 1 b.length none,.int .i64 (s:Int)] [(0,⟨.view,aB b⟩)] 1 (eC (rT b s)) [] 1:=by
 refine aR none (dR zS cF) (bA GZ bI) Wb (Nat.le_of_ble_eq_true rfl) (by decide) ?_
 conv in aJ _ _=>(reduce;simp only[aH,seval])
 rw[aQ]
 unfold eC rT fT
 have fl:=aX b
 rcases hx:cR b with⟨n,u,e⟩
 simp only
 rcases sU hx with⟨rfl,h1,h2,h3⟩|⟨he,rfl,rfl⟩
 ·have w1:IntKind.i64.wrap ((b.length:Int) - (u:Int))=((b.length - u:Nat):Int):=by rw[aD (by omega) (by omega)];omega
  by_cases hn:n < 0
  ·simp only[zS,gU,aT,hb,fl,jO,hx,eC,hn,BC,↓PC,seval]
   exact⟨[(0,0)],rfl,by simp[aK,aM,aG,b7,BB]⟩
  ·have hle:=Nat.div_le_self (b.length - u) s
   have hdm:n≤(b.length:Int)→((n * (s:Int) > ((b.length - u:Nat):Int))↔n > (((b.length - u) / s:Nat):Int)):=by
    intro hnl
    obtain⟨k,rfl⟩:∃ k:Nat,n=(k:Int):=⟨n.toNat,by omega⟩
    have hk:=Nat.div_lt_iff_lt_mul (x:=b.length - u) (y:=k) (k:=s) (by omega)
    constructor
    ·intro h
     have:(k * s:Nat) > b.length - u:=by exact_mod_cast h
     have:=hk.2 (by omega)
     omega
    ·intro h
     have:=hk.1 (by omega)
     have:(k * s:Nat) > b.length - u:=by omega
     exact_mod_cast this
   by_cases hl:n > (b.length:Int)
   ·have hq:n > (((b.length - u) / s:Nat):Int):=by omega
    simp only[zS,gU,aT,hb,fl,jO,hx,eC,hn,hl,hq,undef,BC,↓PC,seval]
    exact⟨[(0,0)],rfl,by simp[aK,aM,aG,b7,BB]⟩
   ·have w2:IntKind.i64.wrap (n * (s:Int))=n * (s:Int):=by
     have h1:0≤n * (s:Int):=Int.mul_nonneg (by omega) (by omega)
     have h2:n * (s:Int)≤1099511627776 * 1000:=Int.mul_le_mul (by omega) (by omega) (by omega) (by omega)
     exact aD (by omega) (by omega)
    have hd:=hdm (by omega)
    by_cases hq:n > (((b.length - u) / s:Nat):Int)
    ·have hq2:=hd.2 hq
     simp only[zS,gU,aT,hb,fl,jO,hx,eC,hn,hl,hq,hq2,w1,w2,BC,↓PC,seval]
     exact⟨[(0,0)],rfl,by simp[aK,aM,aG,b7,BB]⟩
    ·have hq2:¬ n * (s:Int) > ((b.length - u:Nat):Int):=fun h=>hq (hd.1 h)
     simp only[zS,gU,aT,hb,fl,jO,hx,eC,hn,hl,hq,hq2,w1,w2,BC,↓PC,seval]
     exact⟨[(0,0)],rfl,by simp[aK,aM,aG,b7,BB]⟩
 ·have he':(e != 0)=true:=by simpa using he
  have he2:(e=0)=False:=by simpa using he
  simp only[zS,gU,aT,hb,fl,jO,hx,eC,he,he',BC,↓PC,seval]
  exact⟨[(0,0)],rfl,by simp[aK,aM,aG,b7,BB]⟩
def A4 (c:List UInt8→Nat→Int × Nat × Int):GS
 | [.slc 0 0 1 len none,.int .i64 z],[(0,⟨.view,cells⟩)]=>match rQ cells with
  | some b=>if len=b.length∧b.length≤2 ^ 40∧1≤z.toNat∧z.toNat≤1000∧z=(z.toNat:Int) then some (eC (c b z.toNat),[],1) else none
  | none=>none
 | _,_=>none
theorem yL {c:List UInt8→Nat→Int × Nat × Int} {b:List UInt8} {s:Nat} (hb:b.length≤2 ^ 40) (h1:1≤s) (h2:s≤1000) :
  A4 c [.slc 0 0 1 b.length none,.int .i64 (s:Int)] [(0,⟨.view,aB b⟩)]=some (eC (c b s),[],1):=by
 unfold A4
 simp only[aT,Int.toNat_natCast,hb,h1,h2,and_self,if_true]
theorem CR {f:FuncId} {c:List UInt8→Nat→Int × Nat × Int} (h:∀ (b:List UInt8) (s:Nat),1≤s→s≤1000→b.length≤2 ^ 40 →
  Fun Tryz.prog tS f [.slc 0 0 1 b.length none,.int .i64 (s:Int)] [(0,⟨.view,aB b⟩)] 1 (eC (c b s)) [] 1):dQ Tryz.prog tS f (A4 c):=by
 intro a0 m0 r m1 n1 hr
 unfold A4 at hr
 split at hr
 ·split at hr
  ·rename_i b hb
   split at hr
   ·rename_i hc
    obtain⟨rfl,h1,h2,h3,h4⟩:=hc
    cases hr
    rw[b8 hb,h4]
    exact⟨h b _ h2 h3 h1,by simp[dA]⟩
   ·cases hr
  ·cases hr
 ·cases hr
theorem rF {b:List UInt8} {s:Nat} (h:fT b s=0):∃ n u:Nat,cR b=((n:Int),u,0)∧u≤b.length∧n≤(b.length - u) / s∧0 < u:=by
 rcases hx:cR b with⟨n,u,e⟩
 unfold fT at h
 rw[hx] at h
 simp only at h
 split at h
 ·rename_i he;exact absurd h he
 ·rename_i he
  have he:e=0:=by simpa using he
  subst he
  rcases sU hx with⟨_,h1,h2,h3⟩|⟨he,_⟩
  ·split at h
   ·simp at h
   ·split at h
    ·simp at h
    ·exact⟨n.toNat,u,by rw[show n=((n.toNat:Nat):Int) by omega];simp,h2,by omega,h3⟩
  ·exact absurd rfl he
def cJ (b:List UInt8):List UInt8 × Nat × Int:=if fT b 1≠0 then ([],0,fT b 1) else ((b.drop (cR b).2.1).take (cR b).1.toNat,(cR b).2.1+(cR b).1.toNat,0)
def j9 (x:List UInt8 × Nat × Int):SV:=.tup [.str x.1,.int .i64 (x.2.1:Int),.int .i64 x.2.2]
def A5:List (FuncId × GS):=[(135,A4 vQ),(115,A4 rT)]
theorem sZ:∀ x∈A5,dQ Tryz.prog tS x.1 x.2:=by
 intro x hx
 simp only[A5,List.mem_cons,List.not_mem_nil,or_false] at hx
 rcases hx with rfl|rfl
 ·exact CR f69
 ·exact CR f71
theorem rG (b:List UInt8) (k:Nat):List.drop k (aB b)=aB (b.drop k):=by simp[aB]
theorem y5 (b:List UInt8) (k:Nat):List.take k (aB b)=aB (b.take k):=by simp[aB]
theorem f60 (b:List UInt8) (hb:b.length≤2 ^ 40) :
  Fun Tryz.prog tS 98 [.slc 0 0 1 b.length none] [(0,⟨.view,aB b⟩)] 1 (j9 (cJ b)) [] 1:=by
 refine aR none (dR A5 cF) (bA sZ bI) Zk (Nat.le_of_ble_eq_true rfl) (by decide) ?_
 conv in aJ _ _=>(reduce;simp only[aH,seval])
 rw[aQ]
 unfold j9 cJ
 have fl:=aX b
 have g1:A4 vQ [.slc 0 0 1 b.length none,.int .i64 1] [(0,⟨.view,aB b⟩)]=some (eC (vQ b 1),[],1):=yL (s:=1) hb (by decide) (by decide)
 by_cases he:fT b 1=0
 ·obtain⟨n,u,hx,h1,h2,h3⟩:=rF he
  have hc:vQ b 1=((n:Int),u,0):=by unfold vQ;rw[hx,he]
  rw[hc] at g1
  rw[Nat.div_one] at h2
  have w1:IntKind.i64.wrap ((u:Int)+(n:Int))=((u+n:Nat):Int):=by rw[aD (by omega) (by omega)];omega
  have k1:(0:Int)≤(u:Int):=by omega
  have k2:(u:Int)≤((u+n:Nat):Int):=by omega
  have k3:((u+n:Nat):Int)≤(b.length:Int):=by omega
  have k4:u+n - u=n:=by omega
  have k5:u+n≤b.length:=by omega
  have tk:=y5 (b.drop u) n
  simp only[A5,↓g1,fl,eC,he,hx,w1,k1,k2,k3,k4,k5,rG,tk,BC,↓PC,seval]
  exact⟨dD _,[(0,0)],⟨rfl,by simp[aK,aM,aG,b7,BB]⟩,by rw[bR]⟩
 ·have he':(fT b 1 != 0)=true:=by simpa using he
  have hc:∃ n u,vQ b 1=(n,u,fT b 1):=⟨_,_,rfl⟩
  obtain⟨n,u,hc⟩:=hc
  rw[hc] at g1
  simp only[A5,↓g1,fl,eC,he,he',BC,↓PC,seval]
  exact⟨[(0,0)],rfl,by simp[aK,aM,aG,b7,BB]⟩
theorem f49 (b:List UInt8) (hb:b.length≤2 ^ 40) :
  Fun Tryz.prog tS 74 [.slc 0 0 1 b.length none] [(0,⟨.view,aB b⟩)] 1 (j9 (cJ b)) [] 1:=by
 refine aR none (dR A5 cF) (bA sZ bI) Z6 (Nat.le_of_ble_eq_true rfl) (by decide) ?_
 conv in aJ _ _=>(reduce;simp only[aH,seval])
 rw[aQ]
 unfold j9 cJ
 have fl:=aX b
 have g1:A4 rT [.slc 0 0 1 b.length none,.int .i64 1] [(0,⟨.view,aB b⟩)]=some (eC (rT b 1),[],1):=yL (s:=1) hb (by decide) (by decide)
 by_cases he:fT b 1=0
 ·obtain⟨n,u,hx,h1,h2,h3⟩:=rF he
  have hc:rT b 1=((n:Int),u,0):=by unfold rT;rw[hx,he];rfl
  rw[hc] at g1
  rw[Nat.div_one] at h2
  have w1:IntKind.i64.wrap ((u:Int)+(n:Int))=((u+n:Nat):Int):=by rw[aD (by omega) (by omega)];omega
  have k1:(0:Int)≤(u:Int):=by omega
  have k2:(u:Int)≤((u+n:Nat):Int):=by omega
  have k3:((u+n:Nat):Int)≤(b.length:Int):=by omega
  have k4:u+n - u=n:=by omega
  have k5:u+n≤b.length:=by omega
  have tk:=y5 (b.drop u) n
  simp only[A5,↓g1,fl,eC,he,hx,w1,k1,k2,k3,k4,k5,rG,tk,BC,↓PC,seval]
  exact⟨dD _,[(0,0)],⟨rfl,by simp[aK,aM,aG,b7,BB]⟩,by rw[bR]⟩
 ·have he':(fT b 1 != 0)=true:=by simpa using he
  have hc:∃ n u,rT b 1=(n,u,fT b 1):=⟨0,0,by unfold rT;rw[if_pos he]⟩
  obtain⟨n,u,hc⟩:=hc
  rw[hc] at g1
  simp only[A5,↓g1,fl,eC,he,he',BC,↓PC,seval]
  exact⟨[(0,0)],rfl,by simp[aK,aM,aG,b7,BB]⟩
def jY:GS
 | [.slc 0 0 1 len none],[(0,⟨.view,cells⟩)]=>match rQ cells with
  | some b=>if len=b.length∧b.length≤2 ^ 40 then some (j9 (cJ b),[],1) else none
  | none=>none
 | _,_=>none
theorem A6 {f:FuncId} (h:∀ b:List UInt8,b.length≤2 ^ 40→Fun Tryz.prog tS f [.slc 0 0 1 b.length none] [(0,⟨.view,aB b⟩)] 1 (j9 (cJ b)) [] 1):dQ Tryz.prog tS f jY:=by
 intro a0 m0 r m1 n1 hr
 unfold jY at hr
 split at hr
 ·split at hr
  ·rename_i b hb
   split at hr
   ·rename_i hc
    obtain⟨rfl,h1⟩:=hc
    cases hr
    rw[b8 hb]
    exact⟨h b h1,by simp[dA]⟩
   ·cases hr
  ·cases hr
 ·cases hr
theorem f70 (b:List UInt8) (z:Int) (len:Nat):Fun Tryz.prog tS 145 [.slc 0 0 1 len none,.int .i64 z] [(0,⟨.view,aB b⟩)] 1
  (.fn 162 [] [.ptr 1 0,.ptr 2 0]) [(2,⟨.own 3,[.int .i64 z]⟩),(1,⟨.own 56,[.slc 0 0 1 len none]⟩)] 3:=by
 refine aR none cF bI Wv (Nat.le_of_ble_eq_true rfl) (by decide) ?_
 conv in aJ _ _=>(reduce;simp only[aH,UInt8.reduceOfNat,Int.reduceOfNat,Int.reduceNegSucc])
 rw[aQ]
 simp (maxSteps:=1000000) only [reduceCtorEq,Nat.reduceEqDiff,Nat.reduceAdd,↓reduceIte,BC,↓PC]
 exact⟨[(0,0),(1,0),(2,0)],by simp[Nat.reduceAdd,Nat.reduceLT,Nat.reduceLeDiff,↓reduceIte,BC],by simp[Nat.reduceAdd,Nat.reduceLT,Nat.reduceLeDiff,BB]⟩
def CX:GS
 | [.slc 0 0 1 len none,.int .i64 z],[(0,⟨.view,cells⟩)]=>match rQ cells with
  | some _=>some (.fn 162 [] [.ptr 1 0,.ptr 2 0],[(2,⟨.own 3,[.int .i64 z]⟩),(1,⟨.own 56,[.slc 0 0 1 len none]⟩)],3)
  | none=>none
 | _,_=>none
theorem Jr:dQ Tryz.prog tS 145 CX:=by
 intro a0 m0 r m1 n1 hr
 unfold CX at hr
 split at hr
 ·split at hr
  ·rename_i b hb
   cases hr
   rw[b8 hb]
   exact⟨f70 b _ _,by simp[dA]⟩
  ·cases hr
 ·cases hr
theorem f85 (b:List UInt8) (z:Nat) (hb:b.length≤2 ^ 40) (hz:z≤b.length):Fun Tryz.prog tS 162 [.ptr 0 0,.ptr 2 0] [(0,⟨.own 56,[.slc 1 0 1 b.length none]⟩),(1,⟨.view,aB b⟩),(2,⟨.own 3,[.int .i64 (z:Int)]⟩)] 3
  (eC ((cR (b.drop z)).1,z+(cR (b.drop z)).2.1,(cR (b.drop z)).2.2)) [(0,⟨.own 56,[.slc 1 0 1 b.length none]⟩),(2,⟨.own 3,[.int .i64 ((z+(cR (b.drop z)).2.1:Nat):Int)]⟩)] 3:=by
 refine aR none (dR zS cF) (bA GZ bI) XF (Nat.le_of_ble_eq_true rfl) (by decide) ?_
 conv in aJ _ _=>(reduce;simp only[aH,UInt8.reduceOfNat,Int.reduceOfNat,Int.reduceNegSucc])
 rw[aQ]
 unfold eC
 rcases hx:cR (b.drop z) with⟨n,u,e⟩
 have hu:z+u≤b.length:=by
  rcases sU hx with⟨_,_,h2,_⟩|⟨_,_,h2⟩
  ·simp at h2;omega
  ·omega
 have k1:(0:Int)≤(z:Int):=by omega
 have k2:(z:Int)≤(b.length:Int):=by omega
 have fl:=aX (b.drop z)
 have hl:(b.drop z).length=b.length - z:=by simp
 have k3:z+(b.length - z)=b.length:=by omega
 have k4:z+(b.length - z)≤b.length:=by omega
 have tk:List.take (b.length - z) (aB (b.drop z))=aB (b.drop z):=List.take_of_length_le (by rw[aA];simp)
 have hb2:b.length - z≤2 ^ 40:=by omega
 have w1:IntKind.i64.wrap ((z:Int)+(u:Int))=((z+u:Nat):Int):=by rw[aD (by omega) (by omega)];omega
 simp (maxSteps:=1000000) only [zS,nR,aT,jO,rG,Option.map_none,Int.le_refl,fl,hl,k1,k2,k3,tk,hb2,hx,eC,w1,reduceCtorEq,Nat.reduceEqDiff,Nat.reduceSub,Nat.reduceLT,↓reduceIte,bC,aF,BC,↓PC]
 exact⟨[(0,0),(1,0),(2,0)],by simp[Nat.reduceAdd,Nat.reduceEqDiff,Nat.reduceLT,Nat.reduceLeDiff,↓reduceIte,reduceCtorEq,BC]⟩
def z7 (b:List UInt8):Nat→Nat→List Int × Nat × Int
 | 0,z=>([],z,0)
 | k+1,z=>if (cR (b.drop z)).2.2≠0 then ([],0,(cR (b.drop z)).2.2) else
  if (z7 b k (z+(cR (b.drop z)).2.1)).2.2≠0 then ([],0,(z7 b k (z+(cR (b.drop z)).2.1)).2.2) else
  ((cR (b.drop z)).1 :: (z7 b k (z+(cR (b.drop z)).2.1)).1,(z7 b k (z+(cR (b.drop z)).2.1)).2.1,0)
def eU (b:List UInt8):List Int × Nat × Int:=if fT b 1≠0 then ([],0,fT b 1) else z7 b (cR b).1.toNat (cR b).2.1
def Io:GS
 | [.ptr 0 0,.ptr 2 0],[(0,⟨.own 56,[.slc 1 0 1 len none]⟩),(1,⟨.view,cells⟩),(2,⟨.own 3,[.int .i64 z]⟩)]=>match rQ cells with
  | some b=>if len=b.length∧b.length≤2 ^ 40∧z.toNat≤b.length∧z=(z.toNat:Int) then
   some (eC ((cR (b.drop z.toNat)).1,z.toNat+(cR (b.drop z.toNat)).2.1,(cR (b.drop z.toNat)).2.2),[(0,⟨.own 56,[.slc 1 0 1 b.length none]⟩),(2,⟨.own 3,[.int .i64 ((z.toNat+(cR (b.drop z.toNat)).2.1:Nat):Int)]⟩)],3) else none
  | none=>none
 | _,_=>none
theorem QD:dQ Tryz.prog tS 162 Io:=by
 intro a0 m0 r m1 n1 hr
 unfold Io at hr
 split at hr
 ·split at hr
  ·rename_i b hb
   split at hr
   ·rename_i hc
    obtain⟨rfl,h1,h2,h3⟩:=hc
    cases hr
    rw[b8 hb]
    have:=f85 (tS:=tS) b _ h1 h2
    rw[← h3] at this
    exact⟨this,.inr ⟨_,List.mem_cons_self,s6 rfl⟩,.inr ⟨_,List.mem_cons_of_mem _ (List.mem_cons_of_mem _ List.mem_cons_self),s6 rfl⟩,trivial⟩
   ·cases hr
  ·cases hr
 ·cases hr
theorem QE {b:List UInt8} {z:Nat} (hb:b.length≤2 ^ 40) (hz:z≤b.length) :
  Io [.ptr 0 0,.ptr 2 0] [(0,⟨.own 56,[.slc 1 0 1 b.length none]⟩),(1,⟨.view,aB b⟩),(2,⟨.own 3,[.int .i64 (z:Int)]⟩)] =
   some (eC ((cR (b.drop z)).1,z+(cR (b.drop z)).2.1,(cR (b.drop z)).2.2),[(0,⟨.own 56,[.slc 1 0 1 b.length none]⟩),(2,⟨.own 3,[.int .i64 ((z+(cR (b.drop z)).2.1:Nat):Int)]⟩)],3):=by
 unfold Io
 simp only[aT,Int.toNat_natCast,hb,hz,and_self,if_true]
def QF:List (FuncId × GS):=[(135,A4 vQ),(145,CX),(162,Io)]
theorem LU:∀ x∈QF,dQ Tryz.prog tS x.1 x.2:=by
 intro x hx
 simp only[QF,List.mem_cons,List.not_mem_nil,or_false] at hx
 rcases hx with rfl|rfl|rfl
 ·exact CR f69
 ·exact Jr
 ·exact QD
def Ds (l:List Int) (x:List Int × Nat × Int):List Int × Nat × Int:=if x.2.2≠0 then ([],0,x.2.2) else (l++x.1,x.2.1,0)
theorem Ip {b:List UInt8} {k z:Nat} {l:List Int} (he:(cR (b.drop z)).2.2=0):Ds l (z7 b (k+1) z)=Ds (l++[(cR (b.drop z)).1]) (z7 b k (z+(cR (b.drop z)).2.1)):=by
 unfold Ds
 simp only[z7,he,ne_eq,not_true_eq_false,if_false]
 by_cases h2:(z7 b k (z+(cR (b.drop z)).2.1)).2.2=0
 ·simp only[h2,not_true_eq_false,if_false];simp
 ·simp only[h2,not_false_eq_true,if_true]
theorem LV {b:List UInt8} {k z:Nat} {l:List Int} (he:(cR (b.drop z)).2.2≠0):Ds l (z7 b (k+1) z)=([],0,(cR (b.drop z)).2.2):=by
 unfold Ds
 simp only[z7,he,ne_eq,not_false_eq_true,if_true]
theorem Iq {b:List UInt8} {z:Nat} {l:List Int}:Ds l (z7 b 0 z)=(l,z,0):=by
 simp[Ds,z7]
theorem LW {b:List UInt8}:∀ (k z:Nat),Ds [] (z7 b k z)=z7 b k z:=by
 intro k z
 unfold Ds
 cases k with
 | zero=>simp[z7]
 | succ k=>
  simp only[z7]
  split
  ·rename_i h;simp only
  ·split
   ·rename_i h;simp only
   ·simp
def rI (i:Nat) (x:List Int × Nat × Int):SV:=.tup [AN i 1 x.1.length,.int .i64 (x.2.1:Int),.int .i64 x.2.2]
theorem f43 (b:List UInt8) (hb:b.length≤2 ^ 36):Fun Tryz.prog tS 114 [.slc 0 0 1 b.length none] [(0,⟨.view,aB b⟩)] 1
  (rI 1 (eU b)) (v7 1 3 (d9 (eU b).1) [] (eU b).1.length) (s9 1 (eU b).1.length):=by
 refine aR none (dR QF cF) (bA LU bI) Wa (Nat.le_of_ble_eq_true rfl) (by cases (eU b).1.length <;> simp[s9]) ?_
 conv in aJ _ _=>(reduce;simp only[aH,UInt8.reduceOfNat,Int.reduceOfNat,Int.reduceNegSucc])
 rw[aQ]
 unfold rI
 have hb40:b.length≤2 ^ 40:=by omega
 have fl:=aX b
 have g1:A4 vQ [.slc 0 0 1 b.length none,.int .i64 1] [(0,⟨.view,aB b⟩)]=some (eC (vQ b 1),[],1):=yL (s:=1) hb40 (by decide) (by decide)
 by_cases he:fT b 1=0
 ·obtain⟨n,u,hx,h1,h2,h3⟩:=rF he
  have hc:vQ b 1=((n:Int),u,0):=by unfold vQ;rw[hx,he]
  have hS:eU b=z7 b n u:=by unfold eU;rw[hx,he];simp
  rw[hc] at g1
  rw[Nat.div_one] at h2
  simp (maxSteps:=1000000) only [QF,CX,aT,↓g1,fl,eC,Int.reduceBNe,reduceCtorEq,Nat.reduceEqDiff,Nat.reduceAdd,Nat.reduceSub,Nat.reduceLT,↓reduceIte,BC,↓PC]
  rw[aL,hS]
  refine bF (bA LU bI) (σ:=Nat × Nat × List Int) (fun s=>[(26,.int .i64 (s.1:Int)),(25,.int .i64 (n:Int)),(9,AN 3 1 s.2.2.length),(8,.fn 162 [] [.ptr 1 0,.ptr 2 0]),(6,.int .i64 (s.2.1:Int))])
   (fun s=>v7 3 3 (d9 s.2.2) [(2,⟨.own 3,[.int .i64 (s.2.1:Int)]⟩),(1,⟨.own 56,[.slc 0 0 1 b.length none]⟩),(0,⟨.view,aB b⟩)] s.2.2.length) (fun s=>s9 3 s.2.2.length)
   (fun s=>s.1≤n∧s.2.1≤b.length∧s.2.2.length=s.1∧z7 b n u=Ds s.2.2 (z7 b (n - s.1) s.2.1)) (fun s=>n - s.1) (0,u,[]) ?_ ⟨Nat.zero_le _,h1,rfl,(LW _ _).symm⟩ ?_
  ·exact⟨[(0,0),(1,0),(2,0)],by simp[Nat.reduceAdd,Nat.reduceLT,Nat.reduceLeDiff,↓reduceIte,reduceCtorEq,BC],by simp[Nat.reduceAdd,Nat.reduceEqDiff,Nat.reduceLT,Nat.reduceLeDiff,↓reduceIte,BC]⟩
  rintro⟨i,z,l⟩ ⟨hi,hz,hl,hinv⟩
  simp only at hi hz hl hinv
  by_cases hin:i < n
  ·have c1:(i:Int) < (n:Int):=by omega
   have wi:IntKind.i64.wrap ((i:Int)+1)=((i+1:Nat):Int):=by rw[aD (by omega) (by omega)];omega
   have g2:=QE hb40 hz
   rw[show n - i=(n - (i+1))+1 by omega] at hinv
   rcases hq:cR (b.drop z) with⟨x,q,e⟩
   rw[hq] at g2
   simp only[eC] at g2
   by_cases hee:e=0
   ·subst hee
    have hzq:z+q≤b.length:=by
     rcases sU hq with⟨_,_,h2,_⟩|⟨h,_,_⟩
     ·simp at h2;omega
     ·exact absurd rfl h
    rw[Ip (by rw[hq])] at hinv
    rw[hq] at hinv
    simp only at hinv
    have ha:d9 l++[.int .i64 x]=d9 (l++[x]):=by simp[d9]
    rcases Nat.eq_zero_or_pos l.length with h0|h0
    ·have hl0:l=[]:=List.length_eq_zero_iff.1 h0
     subst hl0
     simp (maxSteps:=1000000) only [↓g2,fl,c1,wi,Int.reduceBNe,reduceCtorEq,Nat.reduceEqDiff,Nat.reduceAdd,Nat.reduceSub,Nat.reduceMul,Nat.reduceLT,↓reduceIte,aF,BC,↓PC]
     exact⟨by omega,by omega,(i+1,z+q,[x]),⟨[(0,0),(1,0),(2,0),(4,0)],by simp[d9,Nat.reduceAdd,Nat.reduceEqDiff,Nat.reduceLT,Nat.reduceLeDiff,↓reduceIte,reduceCtorEq,BC],by simp[Nat.reduceAdd,Nat.reduceEqDiff,Nat.reduceLT,Nat.reduceLeDiff,↓reduceIte,BC]⟩,⟨by simp only;omega,by simp only;omega,by simp at hl;simp;omega,by simpa using hinv⟩,by simp only;omega⟩
    ·rw[eL h0,eE h0,eO h0]
     simp (maxSteps:=1000000) only [↓g2,fl,c1,wi,Int.reduceBNe,reduceCtorEq,Nat.reduceEqDiff,Nat.reduceAdd,Nat.reduceSub,Nat.reduceLT,↓reduceIte,aF,BC,↓PC]
     rw[ha]
     exact⟨by omega,by omega,(i+1,z+q,l++[x]),⟨[(0,0),(1,0),(2,0),(5,0)],by simp[Nat.reduceAdd,Nat.reduceEqDiff,Nat.reduceLT,Nat.reduceLeDiff,↓reduceIte,reduceCtorEq,BC],by simp[Nat.reduceAdd,Nat.reduceEqDiff,Nat.reduceLT,Nat.reduceLeDiff,↓reduceIte,BC]⟩,⟨by simp only;omega,by simp only;omega,by simp;omega,hinv⟩,by simp only;omega⟩
   ·have hb2:(e != 0)=true:=by simpa using hee
    rw[LV (by rw[hq];exact hee)] at hinv
    rw[hq] at hinv
    rcases Nat.eq_zero_or_pos l.length with h0|h0
    ·rw[lJ h0,jU h0,lM h0]
     simp (maxSteps:=1000000) only [↓g2,fl,c1,hb2,hinv,reduceCtorEq,Nat.reduceEqDiff,Nat.reduceAdd,Nat.reduceSub,Nat.reduceLT,↓reduceIte,BC,↓PC]
     exact⟨[(0,0)],rfl,by simp[aK,aM,aG,b7,BB]⟩
    ·rw[eL h0,eE h0,eO h0]
     simp (maxSteps:=1000000) only [↓g2,fl,c1,hb2,hinv,reduceCtorEq,Nat.reduceEqDiff,Nat.reduceAdd,Nat.reduceSub,Nat.reduceLT,↓reduceIte,BC,↓PC]
     exact⟨[(0,0)],rfl,by simp[aK,aM,aG,b7,BB]⟩
  ·obtain rfl:i=n:=by omega
   rw[Nat.sub_self,Iq] at hinv
   have c1:¬ (i:Int) < (i:Int):=by omega
   rw[hinv]
   rcases Nat.eq_zero_or_pos l.length with h0|h0
   ·rw[lJ h0,jU h0,lM h0]
    simp (maxSteps:=1000000) only [c1,lJ h0,jU h0,lM h0,Nat.reduceEqDiff,↓reduceIte,BC,↓PC]
    exact⟨[(0,0)],rfl,by simp[aK,aM,aG,b7,BB]⟩
   ·rw[eL h0,eE h0,eO h0]
    simp (maxSteps:=1000000) only [c1,eL h0,eE h0,eO h0,Nat.reduceEqDiff,Nat.reduceAdd,↓reduceIte,BC,↓PC]
    exact⟨[(0,0),(3,0)],by simp[Nat.reduceAdd,Nat.reduceLeDiff,↓reduceIte,BC],by simp[Nat.reduceAdd,Nat.reduceLeDiff,BB]⟩
 ·have he':(fT b 1 != 0)=true:=by simpa using he
  have hS:eU b=([],0,fT b 1):=by unfold eU;rw[if_pos he]
  have hc:∃ n u,vQ b 1=(n,u,fT b 1):=⟨_,_,rfl⟩
  obtain⟨n,u,hc⟩:=hc
  rw[hc] at g1
  rw[hS]
  simp (maxSteps:=1000000) only [QF,↓g1,fl,eC,he',reduceCtorEq,Nat.reduceEqDiff,Nat.reduceSub,Nat.reduceLT,↓reduceIte,BC,↓PC]
  exact⟨[(0,0)],rfl,by simp[aK,aM,aG,b7,BB]⟩
def QG:List (FuncId × GS):=[(115,A4 rT),(103,gU)]
theorem LX:∀ x∈QG,dQ Tryz.prog tS x.1 x.2:=by
 intro x hx
 simp only[QG,List.mem_cons,List.not_mem_nil,or_false] at hx
 rcases hx with rfl|rfl
 ·exact CR f71
 ·exact xK
theorem f48 (b:List UInt8) (hb:b.length≤2 ^ 36):Fun Tryz.prog tS 75 [.slc 0 0 1 b.length none] [(0,⟨.view,aB b⟩)] 1
  (rI 1 (eU b)) (v7 1 3 (d9 (eU b).1) [] (eU b).1.length) (s9 1 (eU b).1.length):=by
 refine aR none (dR QG cF) (bA LX bI) Z7 (Nat.le_of_ble_eq_true rfl) (by cases (eU b).1.length <;> simp[s9]) ?_
 conv in aJ _ _=>(reduce;simp only[aH,UInt8.reduceOfNat,Int.reduceOfNat,Int.reduceNegSucc])
 rw[aQ]
 unfold rI
 have hb40:b.length≤2 ^ 40:=by omega
 have fl:=aX b
 have g1:A4 rT [.slc 0 0 1 b.length none,.int .i64 1] [(0,⟨.view,aB b⟩)]=some (eC (rT b 1),[],1):=yL (s:=1) hb40 (by decide) (by decide)
 by_cases he:fT b 1=0
 ·obtain⟨n,u,hx,h1,h2,h3⟩:=rF he
  have hc:rT b 1=((n:Int),u,0):=by unfold rT;rw[hx,he];rfl
  have hS:eU b=z7 b n u:=by unfold eU;rw[hx,he];simp
  rw[hc] at g1
  rw[Nat.div_one] at h2
  simp (maxSteps:=1000000) only [QG,↓g1,fl,eC,Int.reduceBNe,reduceCtorEq,Nat.reduceEqDiff,Nat.reduceSub,Nat.reduceLT,↓reduceIte,BC,↓PC]
  rw[aL,hS]
  refine bF (bA LX bI) (σ:=Nat × Nat × List Int) (fun s=>[(9,.int .i64 (s.1:Int)),(5,.int .i64 (n:Int)),(8,AN 1 1 s.2.2.length),(0,.slc 0 0 1 b.length none),(6,.int .i64 (s.2.1:Int))])
   (fun s=>v7 1 3 (d9 s.2.2) [(0,⟨.view,aB b⟩)] s.2.2.length) (fun s=>s9 1 s.2.2.length)
   (fun s=>s.1≤n∧s.2.1≤b.length∧s.2.2.length=s.1∧z7 b n u=Ds s.2.2 (z7 b (n - s.1) s.2.1)) (fun s=>n - s.1) (0,u,[]) ?_ ⟨Nat.zero_le _,h1,rfl,(LW _ _).symm⟩ ?_
  ·exact⟨[(0,0)],by simp[↓reduceIte,BC],by simp[Nat.reduceEqDiff,↓reduceIte,reduceCtorEq,BC]⟩
  rintro⟨i,z,l⟩ ⟨hi,hz,hl,hinv⟩
  simp only at hi hz hl hinv
  by_cases hin:i < n
  ·have c1:(i:Int) < (n:Int):=by omega
   have wi:IntKind.i64.wrap ((i:Int)+1)=((i+1:Nat):Int):=by rw[aD (by omega) (by omega)];omega
   rw[show n - i=(n - (i+1))+1 by omega] at hinv
   rcases hq:cR (b.drop z) with⟨x,q,e⟩
   have k1:(0:Int)≤(z:Int):=by omega
   have k2:(z:Int)≤(b.length:Int):=by omega
   have fz:=aX (b.drop z)
   have hlz:(b.drop z).length=b.length - z:=by simp
   have k4:z+(b.length - z)≤b.length:=by omega
   have tk:List.take (b.length - z) (aB (b.drop z))=aB (b.drop z):=List.take_of_length_le (by rw[aA];simp)
   have hb2:b.length - z≤2 ^ 40:=by omega
   by_cases hee:e=0
   ·subst hee
    have hzq:z+q≤b.length:=by
     rcases sU hq with⟨_,_,h2,_⟩|⟨h,_,_⟩
     ·simp at h2;omega
     ·exact absurd rfl h
    have w1:IntKind.i64.wrap ((z:Int)+(q:Int))=((z+q:Nat):Int):=by rw[aD (by omega) (by omega)];omega
    rw[Ip (by rw[hq])] at hinv
    rw[hq] at hinv
    simp only at hinv
    have ha:d9 l++[.int .i64 x]=d9 (l++[x]):=by simp[d9]
    rcases Nat.eq_zero_or_pos l.length with h0|h0
    ·have hl0:l=[]:=List.length_eq_zero_iff.1 h0
     subst hl0
     simp (maxSteps:=1000000) only [gU,aT,jO,rG,Option.map_none,Int.le_refl,hlz,k1,k2,k4,tk,hb2,hq,eC,w1,fz,c1,wi,Int.reduceBNe,reduceCtorEq,Nat.reduceEqDiff,Nat.reduceAdd,Nat.reduceSub,Nat.reduceMul,Nat.reduceLT,↓reduceIte,aF,BC,↓PC]
     exact⟨by omega,by omega,(i+1,z+q,[x]),⟨[(0,0),(2,0)],by simp[d9,Nat.reduceAdd,Nat.reduceLeDiff,↓reduceIte,reduceCtorEq,BC],by simp[Nat.reduceAdd,Nat.reduceEqDiff,Nat.reduceLeDiff,↓reduceIte,reduceCtorEq,BC]⟩,⟨by simp only;omega,by simp only;omega,by simp at hl;simp;omega,by simpa using hinv⟩,by simp only;omega⟩
    ·rw[eL h0,eE h0,eO h0]
     simp (maxSteps:=1000000) only [gU,aT,jO,rG,Option.map_none,Int.le_refl,hlz,k1,k2,k4,tk,hb2,hq,eC,w1,fz,c1,wi,Int.reduceBNe,reduceCtorEq,Nat.reduceEqDiff,Nat.reduceAdd,Nat.reduceSub,Nat.reduceLT,↓reduceIte,aF,BC,↓PC]
     rw[ha]
     exact⟨by omega,by omega,(i+1,z+q,l++[x]),⟨[(0,0),(3,0)],by simp[Nat.reduceAdd,Nat.reduceLeDiff,↓reduceIte,reduceCtorEq,BC],by simp[Nat.reduceAdd,Nat.reduceEqDiff,Nat.reduceLeDiff,↓reduceIte,reduceCtorEq,BC]⟩,⟨by simp only;omega,by simp only;omega,by simp;omega,hinv⟩,by simp only;omega⟩
   ·have hbb:(e != 0)=true:=by simpa using hee
    rw[LV (by rw[hq];exact hee)] at hinv
    rw[hq] at hinv
    rcases Nat.eq_zero_or_pos l.length with h0|h0
    ·rw[lJ h0,jU h0,lM h0]
     simp (maxSteps:=1000000) only [gU,aT,jO,rG,Option.map_none,Int.le_refl,hlz,k1,k2,k4,tk,hb2,hq,eC,fz,c1,hbb,hinv,reduceCtorEq,Nat.reduceEqDiff,Nat.reduceSub,Nat.reduceLT,↓reduceIte,BC,↓PC]
     exact⟨[(0,0)],rfl,by simp[aK,aM,aG,b7,BB]⟩
    ·rw[eL h0,eE h0,eO h0]
     simp (maxSteps:=1000000) only [gU,aT,jO,rG,Option.map_none,Int.le_refl,hlz,k1,k2,k4,tk,hb2,hq,eC,fz,c1,hbb,hinv,reduceCtorEq,Nat.reduceEqDiff,Nat.reduceAdd,Nat.reduceSub,Nat.reduceLT,↓reduceIte,BC,↓PC]
     exact⟨[(0,0)],rfl,by simp[aK,aM,aG,b7,BB]⟩
  ·obtain rfl:i=n:=by omega
   rw[Nat.sub_self,Iq] at hinv
   have c1:¬ (i:Int) < (i:Int):=by omega
   rw[hinv]
   rcases Nat.eq_zero_or_pos l.length with h0|h0
   ·rw[lJ h0,jU h0,lM h0]
    simp (maxSteps:=1000000) only [c1,jU h0,reduceCtorEq,Nat.reduceEqDiff,↓reduceIte,BC,↓PC]
    exact⟨[(0,0)],rfl,by simp[aK,aM,aG,b7,BB]⟩
   ·rw[eL h0,eE h0,eO h0]
    simp (maxSteps:=1000000) only [c1,eE h0,reduceCtorEq,Nat.reduceEqDiff,Nat.reduceAdd,↓reduceIte,BC,↓PC]
    exact⟨[(0,0),(1,0)],by simp[Nat.reduceAdd,Nat.reduceLeDiff,↓reduceIte,BC],by simp[Nat.reduceAdd,Nat.reduceLeDiff,BB]⟩
 ·have he':(fT b 1 != 0)=true:=by simpa using he
  have hS:eU b=([],0,fT b 1):=by unfold eU;rw[if_pos he]
  have hc:∃ n u,rT b 1=(n,u,fT b 1):=⟨0,0,by unfold rT;rw[if_pos he]⟩
  obtain⟨n,u,hc⟩:=hc
  rw[hc] at g1
  rw[hS]
  simp (maxSteps:=1000000) only [QG,↓g1,fl,eC,he',reduceCtorEq,Nat.reduceEqDiff,Nat.reduceSub,Nat.reduceLT,↓reduceIte,BC,↓PC]
  exact⟨[(0,0)],rfl,by simp[aK,aM,aG,b7,BB]⟩
theorem LY {n:Nat} {q:List UInt8} (hn:n < 9223372036854775808) (hq:n≤q.length):cR (aP (n:Int)++q)=((n:Int),(aP (n:Int)).length,0)∧fT (aP (n:Int)++q) 1=0:=by
 have hr:kJ (n:Int):=by unfold kJ;omega
 have h1:=vP hr q
 refine⟨h1,?_⟩
 unfold fT
 rw[h1]
 simp only[ne_eq,not_true_eq_false,if_false,List.length_append,Nat.div_one,Nat.add_sub_cancel_left]
 rw[if_neg (by omega),if_neg (by omega)]
theorem yM {s q:List UInt8} (hs:s.length < 9223372036854775808):cJ (bU s++q)=(s,(bU s).length,0):=by
 have h:=LY (n:=s.length) (q:=s++q) hs (by simp)
 rw[← List.append_assoc] at h
 unfold cJ bU
 rw[h.1,h.2]
 simp only[ne_eq,not_true_eq_false,if_false,List.length_append,Int.toNat_natCast,List.append_assoc]
 rw[List.drop_left,List.take_left]
theorem LZ:∀ (l:List Int) (b:List UInt8) (z:Nat) (r:List UInt8),(∀ x∈l,kJ x)→z≤b.length→b.drop z=vJ l++r→z7 b l.length z=(l,z+(vJ l).length,0)
 | [],b,z,r,_,_,h=>by simp[z7,vJ]
 | x :: l,b,z,r,hl,hz,h=>by
  simp only[vJ,List.append_assoc] at h
  have h1:cR (b.drop z)=(x,(aP x).length,0):=by rw[h];exact vP (hl x List.mem_cons_self) _
  have hlen:=congrArg List.length h
  simp only[List.length_append,List.length_drop] at hlen
  have h2:=LZ l b (z+(aP x).length) r (fun y hy=>hl y (List.mem_cons_of_mem _ hy)) (by omega) (by rw[← List.drop_drop,h,List.drop_left])
  simp only[List.length_cons,z7,h1,h2,vJ,List.length_append,ne_eq,not_true_eq_false,if_false,Nat.add_assoc]
theorem L3:∀ l,l.length≤(vJ l).length
 | []=>Nat.le_refl _
 | x :: l=>by
  have:=L3 l
  simp only[vJ,aP,List.length_append,List.length_cons];omega
theorem QH {l:List Int} {r:List UInt8} (hl:∀ x∈l,kJ x) (hn:l.length < 9223372036854775808):eU (i8 l++r)=(l,(i8 l).length,0):=by
 have hge:=L3 l
 have h:=LY (n:=l.length) (q:=vJ l++r) hn (by simp;omega)
 rw[← List.append_assoc] at h
 unfold eU i8
 rw[h.1,h.2]
 simp only[ne_eq,not_true_eq_false,if_false,Int.toNat_natCast]
 rw[LZ l _ _ r hl (by simp) (by rw[List.append_assoc,List.drop_left])]
 simp
theorem G7 {b s:List UInt8} {u:Nat} (h:cJ b=(s,u,0)):u≤b.length∧b.take u=bU s:=by
 unfold cJ at h
 by_cases hc:fT b 1=0
 ·obtain⟨n,q,hx,h1,h2,h3⟩:=rF hc
  rw[if_neg (by simpa using hc),hx] at h
  simp only[Int.toNat_natCast,Prod.mk.injEq,and_true] at h
  obtain⟨rfl,rfl⟩:=h
  rw[Nat.div_one] at h2
  obtain⟨k1,k2,k3⟩:=sS hx
  refine⟨by omega,?_⟩
  unfold bU
  have hl:((b.drop q).take n).length=n:=by simp;omega
  rw[hl,← k3,List.take_add]
 ·rw[if_pos hc] at h
  simp only[Prod.mk.injEq] at h
  exact absurd h.2.2 hc
theorem L4 {b:List UInt8}:∀ (k z:Nat) {l:List Int} {u:Nat},z≤b.length→z7 b k z=(l,u,0)→l.length=k∧z≤u∧u≤b.length∧(b.drop z).take (u - z)=vJ l∧∀ x∈l,kJ x
 | 0,z,l,u,hz,h=>by
  simp only[z7,Prod.mk.injEq,and_true] at h
  obtain⟨rfl,rfl⟩:=h
  exact⟨rfl,Nat.le_refl _,hz,by simp[vJ],by simp⟩
 | k+1,z,l,u,hz,h=>by
  rcases hq:cR (b.drop z) with⟨x,q,e⟩
  simp only[z7,hq] at h
  by_cases he:e=0
  ·subst he
   rw[if_neg (by simp)] at h
   obtain⟨k1,k2,k3⟩:=sS hq
   rw[List.length_drop] at k2
   rcases hr:z7 b k (z+q) with⟨l',u',e'⟩
   rw[hr] at h
   simp only at h
   by_cases he':e'=0
   ·subst he'
    rw[if_neg (by simp)] at h
    simp only[Prod.mk.injEq,and_true] at h
    obtain⟨rfl,rfl⟩:=h
    obtain⟨h1,h2,h3,h4,h5⟩:=L4 k (z+q) (by omega) hr
    refine⟨by simp[h1],by omega,h3,?_,?_⟩
    ·rw[show u' - z=q+(u' - (z+q)) by omega,List.take_add,k3,List.drop_drop,h4];rfl
    ·intro y hy
     rcases List.mem_cons.1 hy with rfl|hy
     ·exact k1
     ·exact h5 y hy
   ·rw[if_pos he'] at h
    simp only[Prod.mk.injEq] at h
    exact absurd h.2.2 he'
  ·rw[if_pos he] at h
   simp only[Prod.mk.injEq] at h
   exact absurd h.2.2 he
theorem Ir {b:List UInt8} {l:List Int} {u:Nat} (h:eU b=(l,u,0)):u≤b.length∧b.take u=i8 l∧∀ x∈l,kJ x:=by
 unfold eU at h
 by_cases hc:fT b 1=0
 ·obtain⟨n,q,hx,h1,h2,h3⟩:=rF hc
  rw[if_neg (by simpa using hc),hx] at h
  simp only[Int.toNat_natCast] at h
  obtain⟨k1,k2,k3⟩:=sS hx
  obtain⟨r1,r2,r3,r4,r5⟩:=L4 n q h1 h
  refine⟨r3,?_,r5⟩
  unfold i8
  rw[r1,← k3,← r4,show u=q+(u - q) by omega,List.take_add]
  simp
 ·rw[if_pos hc] at h
  simp only[Prod.mk.injEq] at h
  exact absurd h.2.2 hc
end Go.Proofs.YtmhkkalbijbplaaGreatDoor
