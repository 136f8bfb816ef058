/- The proof, part Ui: the texts DecA, PlaC, DecB, DecC, DecD, DgF, ChkB, ChkC, ApE, ApF, ApG, ApH, DecE, DecF, DecG, DecH, MemD, SanA, SanT, LawB, MemE, MemF, EncA, RefA, PlaD, PlaE, ApP, LawA, ChkD, LawC, LawF, ApQ. -/
import Derived.Test.YtkfbkooobfepeaaGreatDoorUh
set_option linter.unusedSimpArgs false
set_option linter.unusedVariables false
/- Package wire: the reading of an integer. -/
namespace Go.Proofs.YtkfbkooobfepeaaGreatDoor
open Go Go.Sx Sf
set_option maxRecDepth 100000
set_option linter.unusedVariables false
variable {tS:List (Nat × List SV)}
def kOf (h:Nat):Nat:=if h < 128 then 127 - h else h - 128
def flU (h:Nat) (c:UInt8):UInt8:=if h < 128 then UInt8.ofNat (255 - c.toNat) else c
def valB (l:List UInt8):Nat:=l.foldl (fun a c=>a * 256+c.toNat) 0
def decS (b:List UInt8):Int × Nat × Int:=match b with
  | []=>(0,0,5)
  | c :: r=>if kOf c.toNat > 8 then (0,0,6) else if r.length < kOf c.toNat then (0,0,5) else
    if ((r.take (kOf c.toNat)).map (flU c.toNat)).head?=some 0 then (0,0,6) else
    if valB ((r.take (kOf c.toNat)).map (flU c.toNat)) ≥ 9223372036854775808 then (0,0,6) else
    ((if c.toNat < 128 then -1 - (valB ((r.take (kOf c.toNat)).map (flU c.toNat)):Int) else (valB ((r.take (kOf c.toNat)).map (flU c.toNat)):Int)),kOf c.toNat+1,0)
def tup3 (x:Int × Nat × Int):SV:=.tup [.int .i64 x.1,.int .i64 (x.2.1:Int),.int .i64 x.2.2]

theorem valB_snoc (l:List UInt8) (c:UInt8):valB (l++[c])=valB l * 256+c.toNat:=by simp [valB]
theorem fold_lt:∀ (l:List UInt8) (a:Nat),l.foldl (fun a c=>a * 256+c.toNat) a < (a+1) * 256 ^ l.length
  | [],a=>by simp
  | c :: l,a=>by
    have:=fold_lt l (a * 256+c.toNat)
    have hc:=c.toNat_lt
    simp only [List.foldl_cons,List.length_cons,Nat.pow_succ]
    have h1:(a * 256+c.toNat+1) * 256 ^ l.length≤(a+1) * 256 * 256 ^ l.length:=Nat.mul_le_mul_right _ (by omega)
    have h2:(a+1) * 256 * 256 ^ l.length=(a+1) * (256 ^ l.length * 256):=by rw [Nat.mul_assoc,Nat.mul_comm 256]
    omega
theorem valB_lt (l:List UInt8):valB l < 256 ^ l.length:=by have:=fold_lt l 0;unfold valB;omega
theorem or_byte {m c:Nat} (hm:m < 72057594037927936) (hc:c < 256):bitop .or .u64 (IntKind.u64.wrap ((m:Int) * 2 ^ (min 8 IntKind.u64.bits))) (IntKind.u64.wrap (c:Int))=((m * 256+c:Nat):Int):=by
  have e0:min 8 IntKind.u64.bits=8:=by decide
  rw [e0]
  have e1:IntKind.u64.wrap ((m:Int) * 2 ^ 8)=((m * 256:Nat):Int):=by rw [wrapU64];omega
  have e2:IntKind.u64.wrap (c:Int)=(c:Int):=by rw [wrapU64];omega
  rw [e1,e2]
  unfold bitop
  simp only
  show IntKind.u64.wrap ((BitVec.ofInt 64 ((m * 256:Nat):Int) ||| BitVec.ofInt 64 (c:Int)).toNat:Int)=_
  rw [BitVec.toNat_or,BitVec.ofInt_natCast,BitVec.ofInt_natCast,BitVec.toNat_ofNat,BitVec.toNat_ofNat,Nat.mod_eq_of_lt (by omega),Nat.mod_eq_of_lt (by omega)]
  have:m * 256 ||| c=m * 256+c:=by
    have:=Nat.shiftLeft_add_eq_or_of_lt (b:=c) (i:=8) (by omega) m
    rw [Nat.shiftLeft_eq] at this
    exact this.symm
  rw [this,wrapU64];omega
theorem kOf_le {h:Nat} (hh:h < 256):kOf h < 128:=by unfold kOf;split <;> omega
theorem flU_val {h:Nat} {c:UInt8}:((flU h c).toNat:Int)=bitop .xor .u8 (c.toNat:Int) (if h < 128 then 255 else 0):=by
  have hc:=c.toNat_lt
  unfold flU
  by_cases hh:h < 128
  · rw [if_pos hh,if_pos hh,xor8_255 _ (by omega),UInt8.toNat_ofNat'];omega
  · rw [if_neg hh,if_neg hh,xor8_0 _ (by omega)]
def flI (h:Nat):Int:=if h < 128 then 255 else 0
set_option maxHeartbeats 8000000 in
theorem f59 (b:List UInt8) (hb:b.length≤2 ^ 62) (cap:Option Nat) (hcap:CapOk cap b.length) :
    Fun Tryz.prog tS 55 [.slc 0 0 1 b.length cap] [(0,⟨.view,bys b⟩)] 1 (tup3 (decS b)) [] 1:=by
  refine fun_any none cF cF_ok chk59 (show 1≤71 by decide) (by decide) ?_
  unfold sf59 og om oq tup3
  cases b with
  | nil=>
    have e0:bys ([]:List UInt8)=[]:=rfl
    simp (config:={ maxSteps:=1000000 }) only [reduceCtorEq,Nat.reduceEqDiff,↓reduceIte,BC,↓PC]
    exact ⟨[(0,0)],⟨rfl,by simp [compat,apartM,keysBelow,idHs,BB]⟩,rfl,rfl,rfl⟩
  | cons c r=>
    have hc:=c.toNat_lt
    have g0:(bys (c :: r))[0]?=some (.int .u8 (c.toNat:Int)):=get_bysI rfl
    have hne:((c :: r).length:Int)≠0:=by simp;omega
    have hl:(c :: r).length=r.length+1:=rfl
    have hk:=kOf_le hc
    have hkx:IntKind.i64.wrap (IntKind.i64.wrap (bitop .xor .u8 (c.toNat:Int) (flI c.toNat)) - 128)=(kOf c.toNat:Int):=by
      unfold flI kOf
      by_cases hh:c.toNat < 128
      · rw [if_pos hh,if_pos hh,xor8_255 _ (by omega),wrap64_eq (x:=255 - _) (by omega) (by omega),wrap64_eq (by omega) (by omega)];omega
      · rw [if_neg hh,if_neg hh,xor8_0 _ (by omega),wrap64_eq (x:=(c.toNat:Int)) (by omega) (by omega),wrap64_eq (by omega) (by omega)];omega
    have key:(((c.toNat:Int) < 128)∧flI c.toNat=255)∨(¬ ((c.toNat:Int) < 128)∧flI c.toNat=0):=by
      unfold flI
      by_cases hh:c.toNat < 128
      · left;exact ⟨by omega,if_pos hh⟩
      · right;exact ⟨by omega,if_neg hh⟩
    have hlen0:((r.length+1:Nat):Int)≠0:=by omega
    have hb0:(((r.length+1:Nat):Int) == 0)=false:=by simpa using hlen0
    have hl1:(0:Int) < ((r.length+1:Nat):Int):=by omega
    have hbl:=len_bytes (c :: r)
    rw [hl] at hbl
    rcases key with ⟨k1,k2⟩ | ⟨k1,k2⟩
    all_goals
      rw [k2] at hkx
      by_cases h8:kOf c.toNat > 8
      · have h8':(kOf c.toNat:Int) > 8:=by omega
        have hd:decS (c :: r)=(0,0,6):=by simp only [decS,h8,if_true]
        simp (config:={ maxSteps:=1000000 }) only [hl,hb0,hl1,hbl,g0,k1,hkx,h8',hd,Nat.zero_lt_succ,reduceCtorEq,Nat.reduceEqDiff,Int.reduceToNat,Int.reduceLE,↓reduceIte,BC,↓PC]
        exact ⟨[(0,0)],rfl,by simp [compat,apartM,keysBelow,idHs,BB]⟩
      have h8':¬ (kOf c.toNat:Int) > 8:=by omega
      by_cases hr:r.length < kOf c.toNat
      · have hr':((r.length+1:Nat):Int)≤(kOf c.toNat:Int):=by omega
        have hd:decS (c :: r)=(0,0,5):=by simp only [decS,h8,hr,if_true,if_false]
        simp (config:={ maxSteps:=1000000 }) only [hl,hb0,hl1,hbl,g0,k1,hkx,h8',hr',hd,Nat.zero_lt_succ,reduceCtorEq,Nat.reduceEqDiff,Int.reduceToNat,Int.reduceLE,↓reduceIte,BC,↓PC]
        exact ⟨[(0,0)],rfl,by simp [compat,apartM,keysBelow,idHs,BB]⟩
      have hr':¬ ((r.length+1:Nat):Int)≤(kOf c.toNat:Int):=by omega
      have hdec:decS (c :: r)=if ((r.take (kOf c.toNat)).map (flU c.toNat)).head?=some 0 then (0,0,6) else
          if valB ((r.take (kOf c.toNat)).map (flU c.toNat)) ≥ 9223372036854775808 then (0,0,6) else
          ((if c.toNat < 128 then -1 - (valB ((r.take (kOf c.toNat)).map (flU c.toNat)):Int) else (valB ((r.take (kOf c.toNat)).map (flU c.toNat)):Int)),kOf c.toNat+1,0):=by
        simp only [decS,h8,hr,if_false]
      have hfl:∀ y:UInt8,((flU c.toNat y).toNat:Int)=bitop .xor .u8 (y.toNat:Int) (flI c.toNat):=fun y=>flU_val
      rw [k2] at hfl
      generalize hK:kOf c.toNat=K at *
      generalize hD:(r.take K).map (flU c.toNat)=D at *
      have hDl:D.length=K:=by rw [← hD];simp;omega
      by_cases hz:D.head?=some 0
      · have hd:decS (c :: r)=(0,0,6):=by rw [hdec,if_pos hz]
        obtain ⟨y,hy,hy0⟩:∃ y,r[0]?=some y∧flU c.toNat y=0:=by
          rw [← hD] at hz
          cases r with
          | nil=>simp at hz
          | cons y r'=>
            cases K with
            | zero=>simp at hz
            | succ K=>simp at hz;exact ⟨y,rfl,hz⟩
        have hK0:(K:Int) > 0:=by
          cases K with
          | zero=>simp at hDl;rw [hDl] at hz;simp at hz
          | succ K=>omega
        have g1:(bys (c :: r))[1]?=some (.int .u8 (y.toNat:Int)):=get_bysI (by simpa using hy)
        have h0:=hfl y
        rw [hy0] at h0
        have h0:bitop .xor .u8 (y.toNat:Int) _=0:=h0.symm
        have hl2:(1:Int) < ((r.length+1:Nat):Int):=by omega
        have hl3:1 < r.length+1:=by omega
        simp (config:={ maxSteps:=1000000 }) only [hl,hb0,hl1,hl2,hl3,hbl,g0,g1,h0,k1,hkx,h8',hr',hK0,hd,Nat.zero_lt_succ,reduceCtorEq,Nat.reduceEqDiff,Int.reduceToNat,Int.reduceLE,↓reduceIte,BC,↓PC]
        exact ⟨[(0,0)],rfl,by simp [compat,apartM,keysBelow,idHs,BB]⟩
      have wK:IntKind.i64.wrap ((K:Int)+1)=((K+1:Nat):Int):=by rw [wrap64_eq (by omega) (by omega)];omega
      by_cases hK0:(K:Int) > 0
      case' pos=>
        obtain ⟨y,hy⟩:∃ y,r[0]?=some y:=⟨_,List.getElem?_eq_getElem (by omega)⟩
        have g1:(bys (c :: r))[1]?=some (.int .u8 (y.toNat:Int)):=get_bysI (by simpa using hy)
        have hhd:D.head?=some (flU c.toNat y):=by
          rw [← hD]
          cases r with
          | nil=>simp at hy
          | cons y' r'=>
            simp at hy
            obtain ⟨K',rfl⟩:∃ K',K=K'+1:=⟨K - 1,by omega⟩
            rw [← hy];simp
        have h0:(bitop .xor .u8 (y.toNat:Int) (flI c.toNat) == 0)=false:=by
          rw [beq_eq_false_iff_ne,k2,← hfl y]
          intro h
          apply hz
          rw [hhd]
          congr 1
          exact UInt8.toNat_inj.1 (by simpa using h)
        rw [k2] at h0
        have hl2:(1:Int) < ((r.length+1:Nat):Int):=by omega
        have hl3:1 < r.length+1:=by omega
        simp (config:={ maxSteps:=1000000 }) only [hl,hb0,hl1,hl2,hl3,hbl,g0,g1,h0,k1,hkx,h8',hr',hK0,wK,Nat.add_sub_cancel,Nat.zero_lt_succ,reduceCtorEq,Nat.reduceEqDiff,Int.reduceToNat,Int.reduceLE,↓reduceIte,BC,↓PC]
        refine ⟨by cases cap with
          | none=>trivial
          | some q=>exact hcap q rfl,by omega,by omega,?_⟩
      case' neg=>
        simp (config:={ maxSteps:=1000000 }) only [hl,hb0,hl1,hbl,g0,k1,hkx,h8',hr',hK0,wK,Nat.add_sub_cancel,Nat.zero_lt_succ,undef,reduceCtorEq,Nat.reduceEqDiff,Int.reduceToNat,Int.reduceLE,↓reduceIte,BC,↓PC]
        refine ⟨by cases cap with
          | none=>trivial
          | some q=>exact hcap q rfl,by omega,by omega,?_⟩
      all_goals
        rw [den_loop]
        refine den_inv cF_ok (σ:=Nat) (fun i=>[(48,.int .i64 (i:Int)),(47,.int .i64 (K:Int)),(46,.slc 0 1 1 K (cap.map (fun x=>x - 1))),(7,.int .u64 (valB (D.take i):Int)),(6,.int .i64 (K:Int)),(5,.int .u8 (flI c.toNat))])
          (fun _=>[(0,⟨.view,bys (c :: r)⟩)]) (fun _=>1) (fun i=>i≤K) (fun i=>K - i) 0 ⟨[(0,0)],by simp [↓reduceIte,BC],by simp [k2,valB,Nat.reduceEqDiff,↓reduceIte,BC]⟩ (Nat.zero_le _) ?_
        intro i hi
        rw [k2]
        by_cases hiK:i < K
        · have d1:(i:Int) < (K:Int):=by omega
          have d2:(0:Int)≤(i:Int):=by omega
          have wi:IntKind.i64.wrap ((i:Int)+1)=((i+1:Nat):Int):=by rw [wrap64_eq (by omega) (by omega)];omega
          obtain ⟨y,hy⟩:∃ y,r[i]?=some y:=⟨_,List.getElem?_eq_getElem (by omega)⟩
          have gy:(bys (c :: r))[1+i]?=some (.int .u8 (y.toNat:Int)):=get_bysI (by rw [Nat.add_comm,List.getElem?_cons_succ];exact hy)
          have hDi:D[i]?=some (flU c.toNat y):=by
            rw [← hD,List.getElem?_map,List.getElem?_take_of_lt hiK,hy];rfl
          have hv:valB (D.take (i+1))=valB (D.take i) * 256+(flU c.toNat y).toNat:=by
            rw [List.take_add_one,hDi];exact valB_snoc _ _
          have hlt:valB (D.take i) < 72057594037927936:=by
            have h1:=valB_lt (D.take i)
            have h2:256 ^ (D.take i).length≤256 ^ 7:=Nat.pow_le_pow_right (by decide) (by simp;omega)
            have h3:(256:Nat) ^ 7=72057594037927936:=by decide
            omega
          have hor:=or_byte hlt (flU c.toNat y).toNat_lt
          rw [hfl y,← hv] at hor
          have q1:1+i < r.length+1:=by omega
          simp (config:={ maxSteps:=1000000 }) only [hbl,gy,d1,d2,q1,wi,hor,Nat.reduceEqDiff,Int.reduceToNat,Int.reduceLE,↓reduceIte,BC,↓PC]
          exact ⟨i+1,⟨[(0,0)],by simp [↓reduceIte,BC],by simp [Nat.reduceEqDiff,↓reduceIte,BC]⟩,by omega,by omega⟩
        · obtain rfl:i=K:=by omega
          have d1:¬ (i:Int) < (i:Int):=by omega
          rw [show D.take i=D from List.take_of_length_le (by omega)]
          simp (config:={ maxSteps:=1000000 }) only [d1,Int.reduceGT,Nat.reduceEqDiff,Int.reduceToNat,Int.reduceLE,Int.reduceNeg,↓reduceIte,BC,↓PC]
          have hm:=valB_lt D
          have hm8:valB D < 18446744073709551616:=by
            have h2:256 ^ D.length≤256 ^ 8:=Nat.pow_le_pow_right (by decide) (by omega)
            have h3:(256:Nat) ^ 8=18446744073709551616:=by decide
            omega
          have e63:min 63 IntKind.u64.bits=63:=by decide
          have hsh:((valB D:Int).fdiv (2 ^ min 63 IntKind.u64.bits) > 0)↔valB D ≥ 9223372036854775808:=by
            rw [e63]
            have:((valB D:Int)).fdiv (2 ^ 63)=((valB D / 9223372036854775808:Nat):Int):=(Int.ofNat_fdiv _ _).symm
            rw [this]
            omega
          constructor
          · intro h1
            have h1:=hsh.1 (of_decide_eq_true h1)
            have hd:decS (c :: r)=(0,0,6):=by rw [hdec,if_neg hz,if_pos h1]
            rw [hd]
            exact ⟨[(0,0)],⟨rfl,by simp [compat,apartM,keysBelow,idHs,BB]⟩,rfl,rfl,rfl⟩
          · intro h1
            have h1:¬ valB D ≥ 9223372036854775808:=fun h=>of_decide_eq_false h1 (hsh.2 h)
            refine ⟨[(0,0)],⟨rfl,by simp [compat,apartM,keysBelow,idHs,BB]⟩,?_⟩
            rw [hdec,if_neg hz,if_neg h1]
            first
              | (rw [if_pos (show c.toNat < 128 by omega),xor_max64]
                 exact ⟨by rw [IntKind.wrap];simp [IntKind.bits,IntKind.signed];omega,wK,rfl⟩)
              | (rw [if_neg (show ¬ c.toNat < 128 by omega)]
                 exact ⟨wrap64_eq (by omega) (by omega),wK,rfl⟩)
def gGetInt:GS
  | [.slc 0 0 1 len cap],[(0,⟨.view,cells⟩)]=>match unB cells with
    | some b=>if len=b.length∧b.length≤2 ^ 40 then (match capB cap b.length with
      | true=>some (tup3 (decS b),[],1)
      | false=>none) else none
    | none=>none
  | _,_=>none
theorem gGetInt_ok:FunS Tryz.prog tS 55 gGetInt:=by
  intro a0 m0 r m1 n1 h
  unfold gGetInt at h
  split at h
  · split at h
    · rename_i b hb
      split at h
      · rename_i hc
        split at h
        · rename_i hcap
          cases h
          obtain ⟨rfl,h1⟩:=hc
          rw [unB_some hb]
          exact ⟨f59 b (by omega) _ (capB_ok hcap),by simp [freshB]⟩
        · cases h
      · cases h
    · cases h
  · cases h
end Go.Proofs.YtkfbkooobfepeaaGreatDoor

/- The plain law of reading an integer. -/
namespace Go.Proofs.YtkfbkooobfepeaaGreatDoor
open Go Go.Sx Sf
set_option maxRecDepth 100000
set_option linter.unusedSimpArgs false
set_option linter.unusedVariables false
def valR:List UInt8→Nat
  | []=>0
  | c :: l=>valR l * 256+c.toNat
theorem valB_R (l:List UInt8):valB l=valR l.reverse:=by
  unfold valB
  rw [List.foldl_eq_foldr_reverse]
  generalize l.reverse=q
  induction q with
  | nil=>rfl
  | cons c q ih=>simp only [List.foldr_cons,valR,ih]
theorem valR_byN:∀ (l:List UInt8) (j:Nat) (c:UInt8),l[j]?=some c→byN (valR l) j=c.toNat
  | [],j,c,h=>by simp at h
  | x :: l,0,c,h=>by
    simp at h;subst h
    have:=x.toNat_lt
    simp only [valR,byN,Nat.pow_zero,Nat.div_one];omega
  | x :: l,j+1,c,h=>by
    have hx:=x.toNat_lt
    rw [byN_succ,show valR (x :: l) / 256=valR l by simp only [valR];omega]
    exact valR_byN l j c (by simpa using h)
theorem valB_byN {l:List UInt8} {i:Nat} {c:UInt8} (hi:l[i]?=some c):byN (valB l) (l.length - 1 - i)=c.toNat:=by
  have hl:i < l.length:=(List.getElem?_eq_some_iff.1 hi).1
  rw [valB_R]
  apply valR_byN
  rw [List.getElem?_reverse (by omega)]
  rw [show l.length - 1 - (l.length - 1 - i)=i by omega]
  exact hi
theorem valB_top {c:UInt8} {l:List UInt8} (h:c≠0):256 ^ l.length≤valB (c :: l):=by
  have hf:∀ (l:List UInt8) (a:Nat),a * 256 ^ l.length≤l.foldl (fun a c=>a * 256+c.toNat) a:=by
    intro l
    induction l with
    | nil=>intro a;simp
    | cons x l ih=>
      intro a
      have:=ih (a * 256+x.toNat)
      simp only [List.foldl_cons,List.length_cons,Nat.pow_succ]
      have h1:a * (256 ^ l.length * 256)≤(a * 256+x.toNat) * 256 ^ l.length:=by
        rw [Nat.mul_comm (256 ^ l.length) 256,← Nat.mul_assoc];exact Nat.mul_le_mul_right _ (by omega)
      omega
  have h0:1≤c.toNat:=by
    rcases Nat.eq_zero_or_pos c.toNat with h1 | h1
    · exact absurd (UInt8.toNat_inj.1 (by simpa using h1)) h
    · exact h1
  unfold valB
  simp only [List.foldl_cons,Nat.zero_mul,Nat.zero_add]
  have:=hf l c.toNat
  have h1:1 * 256 ^ l.length≤c.toNat * 256 ^ l.length:=Nat.mul_le_mul_right _ h0
  omega
theorem valB_top0 {l:List UInt8}:valB (0 :: l) < 256 ^ l.length:=by
  have:=fold_lt l 0
  unfold valB
  simp only [List.foldl_cons]
  simpa using this

def numS (c:UInt8) (D:List UInt8):Int:=if c.toNat < 128 then -1 - (valB D:Int) else (valB D:Int)
theorem numS_facts {c:UInt8} {D:List UInt8} (h:valB D < 9223372036854775808):R64 (numS c D)∧magN (numS c D)=valB D∧(numS c D < 0↔c.toNat < 128):=by
  unfold numS magN R64
  by_cases hc:c.toNat < 128
  · simp only [hc,if_true]
    rw [if_pos (by omega)]
    exact ⟨by omega,by omega,by simp;omega⟩
  · simp only [hc,if_false]
    rw [if_neg (by omega)]
    exact ⟨by omega,by omega,by simp⟩
theorem flU_inv {h:Nat} {y:UInt8}:UInt8.ofNat (if h < 128 then 255 - (flU h y).toNat else (flU h y).toNat)=y:=by
  have hy:=y.toNat_lt
  apply UInt8.toNat_inj.1
  unfold flU
  by_cases hh:h < 128
  · simp only [hh,if_true,UInt8.toNat_ofNat'];omega
  · simp only [hh,if_false,UInt8.toNat_ofNat'];omega
theorem enc_of_dec {c:UInt8} {r:List UInt8} (h8:kOf c.toNat≤8) (hr:kOf c.toNat≤r.length) (hz:((r.take (kOf c.toNat)).map (flU c.toNat)).head?≠some 0)
    (hv:valB ((r.take (kOf c.toNat)).map (flU c.toNat)) < 9223372036854775808):encI (numS c ((r.take (kOf c.toNat)).map (flU c.toNat)))=c :: r.take (kOf c.toNat):=by
  obtain ⟨hn,hm,hs⟩:=numS_facts (c:=c) hv
  obtain ⟨K,h1,h2,h3,h4⟩:=encI_form' hn
  rw [h4]
  rw [hm] at h2 h3
  have hcl:=c.toNat_lt
  generalize hk:kOf c.toNat=k at *
  generalize hD:(r.take k).map (flU c.toNat)=D at *
  have hDl:D.length=k:=by rw [← hD];simp;omega
  have hK:K=k:=by
    have hlt:=valB_lt D
    rw [hDl] at hlt
    cases D with
    | nil=>
      simp at hDl
      rcases h3 with h3 | h3
      · omega
      · have:0 < 256 ^ (K - 1):=Nat.pow_pos (by decide)
        simp [valB] at h3
    | cons d D=>
      have hd:d≠0:=by intro h;apply hz;simp [h]
      have htop:=valB_top (l:=D) hd
      simp at hDl
      rcases Nat.lt_trichotomy K k with hlt2 | rfl | hgt
      · have:256 ^ K≤256 ^ D.length:=Nat.pow_le_pow_right (by decide) (by omega)
        omega
      · rfl
      · rcases h3 with h3 | h3
        · omega
        · have:256 ^ k≤256 ^ (K - 1):=Nat.pow_le_pow_right (by decide) (by omega)
          omega
  subst hK
  congr 1
  · apply UInt8.toNat_inj.1
    have hkk:kOf c.toNat=K:=hk
    unfold kOf at hkk
    by_cases hc:c.toNat < 128
    · rw [if_pos (hs.2 hc),UInt8.toNat_ofNat']
      rw [if_pos hc] at hkk;omega
    · rw [if_neg (fun h=>hc (hs.1 h)),UInt8.toNat_ofNat']
      rw [if_neg hc] at hkk;omega
  · apply List.ext_getElem?
    intro i
    by_cases hi:i < K
    · obtain ⟨y,hy⟩:∃ y,r[i]?=some y:=⟨_,List.getElem?_eq_getElem (by omega)⟩
      have hDi:D[i]?=some (flU c.toNat y):=by
        rw [← hD,List.getElem?_map,List.getElem?_take_of_lt hi,hy];rfl
      have hb:=valB_byN hDi
      rw [hDl] at hb
      rw [List.getElem?_take_of_lt hi,hy,List.getElem?_map,List.getElem?_reverse (by simpa using hi),List.length_range,List.getElem?_range (by omega)]
      simp only [Option.map_some,Option.some.injEq]
      rw [hm,hb]
      have:=flU_inv (h:=c.toNat) (y:=y)
      by_cases hc:c.toNat < 128
      · rw [if_pos (hs.2 hc)];rw [if_pos hc] at this;exact this
      · rw [if_neg (fun h=>hc (hs.1 h))];rw [if_neg hc] at this;exact this
    · rw [List.getElem?_eq_none (by simp;omega),List.getElem?_eq_none (by simp;omega)]
theorem enc_of_zero {c:UInt8} {D:List UInt8} (hz:D.head?=some 0) (hv:valB D < 9223372036854775808):(encI (numS c D)).length≠D.length+1:=by
  obtain ⟨hn,hm,hs⟩:=numS_facts (c:=c) hv
  obtain ⟨K,h1,h2,h3,h4⟩:=encI_form' hn
  rw [h4]
  rw [hm] at h3
  cases D with
  | nil=>simp at hz
  | cons d D=>
    simp at hz
    subst hz
    have htop:=valB_top0 (l:=D)
    simp only [List.length_cons,List.length_map,List.length_reverse,List.length_range]
    intro he
    rcases h3 with h3 | h3
    · omega
    · rw [show K - 1=D.length by omega] at h3;omega
theorem dec_enc {n:Int} (h:R64 n) (q:List UInt8):decS (encI n++q)=(n,(encI n).length,0):=by
  obtain ⟨K,h1,h2,h3,h4⟩:=encI_form' h
  have hm:=magN_lt h
  rw [h4,List.cons_append]
  generalize hT:(List.range K).reverse.map (fun j=>UInt8.ofNat (if n < 0 then 255 - byN (magN n) j else byN (magN n) j))=T at *
  have hTl:T.length=K:=by rw [← hT];simp
  generalize hc:UInt8.ofNat (if n < 0 then 127 - K else 128+K)=c at *
  have hcv:c.toNat=if n < 0 then 127 - K else 128+K:=by
    rw [← hc,UInt8.toNat_ofNat'];split <;> omega
  have hk:kOf c.toNat=K:=by
    rw [hcv];unfold kOf
    by_cases hn:n < 0
    · rw [if_pos hn,if_pos (by omega)];omega
    · rw [if_neg hn,if_neg (by omega)];omega
  have hsg:c.toNat < 128↔n < 0:=by
    rw [hcv]
    by_cases hn:n < 0
    · rw [if_pos hn];exact ⟨fun _=>hn,fun _=>by omega⟩
    · rw [if_neg hn];exact ⟨fun h=>by omega,fun h=>absurd h hn⟩
  have htake:(T++q).take K=T:=List.take_left' hTl
  have hDi:∀ i,i < K→(T.map (flU c.toNat))[i]?=some (UInt8.ofNat (byN (magN n) (K - 1 - i))):=by
    intro i hi
    rw [← hT,List.map_map,List.getElem?_map,List.getElem?_reverse (by simpa using hi),List.length_range,List.getElem?_range (by omega)]
    simp only [Option.map_some,Function.comp,Option.some.injEq]
    have hb:=byN_lt (magN n) (K - 1 - i)
    unfold flU
    apply UInt8.toNat_inj.1
    by_cases hn:n < 0
    · rw [if_pos (hsg.2 hn),if_pos hn]
      simp only [UInt8.toNat_ofNat'];omega
    · rw [if_neg (fun h=>hn (hsg.1 h)),if_neg hn]
  have hDl:(T.map (flU c.toNat)).length=K:=by simp [hTl]
  have hv:valB (T.map (flU c.toNat))=magN n:=by
    have hlt:=valB_lt (T.map (flU c.toNat))
    rw [hDl] at hlt
    refine byN_inj K _ _ hlt h2 fun j hj=>?_
    have:=valB_byN (hDi (K - 1 - j) (by omega))
    rw [hDl,show K - 1 - (K - 1 - j)=j by omega,UInt8.toNat_ofNat'] at this
    have hb:=byN_lt (magN n) j
    omega
  have hz:(T.map (flU c.toNat)).head?≠some 0:=by
    intro hz
    have hK0:0 < K:=by
      rcases Nat.eq_zero_or_pos K with h0 | h0
      · rw [List.length_eq_zero_iff.1 (hDl.trans h0)] at hz;simp at hz
      · exact h0
    have h0:=hDi 0 hK0
    rw [← List.head?_eq_getElem?,hz] at h0
    have hb:=byN_lt (magN n) (K - 1 - 0)
    have:=congrArg UInt8.toNat (Option.some.inj h0)
    rw [UInt8.toNat_ofNat'] at this
    have hb0:byN (magN n) (K - 1)=0:=by
      have e0:(0:UInt8).toNat=0:=rfl
      rw [e0,Nat.sub_zero] at this
      have hb':=byN_lt (magN n) (K - 1)
      omega
    rcases h3 with h3 | h3
    · omega
    · unfold byN at hb0
      have h5:0 < magN n / 256 ^ (K - 1):=Nat.div_pos h3 (Nat.pow_pos (by decide))
      have h6:magN n / 256 ^ (K - 1) < 256:=by
        rw [Nat.div_lt_iff_lt_mul (Nat.pow_pos (by decide)),Nat.mul_comm,← Nat.pow_succ,show (K - 1).succ=K by omega];exact h2
      omega
  simp only [decS,hk,htake]
  rw [if_neg (by omega),if_neg (by simp [hTl]),if_neg hz,hv,if_neg (by omega)]
  simp only [List.length_cons,hTl,Prod.mk.injEq,and_true]
  unfold magN R64 at *
  by_cases hn:n < 0
  · rw [if_pos (hsg.2 hn),if_pos hn];omega
  · rw [if_neg (fun h=>hn (hsg.1 h)),if_neg hn];omega
theorem enc_dec {b:List UInt8} {n:Int} {u:Nat} (h:decS b=(n,u,0)):R64 n∧u≤b.length∧b.take u=encI n:=by
  unfold decS at h
  split at h
  · simp at h
  · rename_i c r
    split at h
    · simp at h
    · split at h
      · simp at h
      · split at h
        · simp at h
        · split at h
          · simp at h
          · rename_i h1 h2 h3 h4
            simp only [Prod.mk.injEq,and_true] at h
            obtain ⟨h5,rfl⟩:=h
            have hn:n=numS c ((r.take (kOf c.toNat)).map (flU c.toNat)):=h5.symm
            rw [hn,enc_of_dec (by omega) (by omega) h3 (by omega)]
            exact ⟨(numS_facts (by omega)).1,by simp;omega,by simp⟩
end Go.Proofs.YtkfbkooobfepeaaGreatDoor

/- The reference's reading of an integer. -/
namespace Go.Proofs.YtkfbkooobfepeaaGreatDoor
open Go Go.Sx Sf
set_option maxRecDepth 100000
set_option linter.unusedVariables false
variable {tS:List (Nat × List SV)}
theorem f72 (a b:List UInt8) (ha:a.length≤2 ^ 62) (cap cap':Option Nat) :
    Fun Tryz.prog tS 84 [.slc 0 0 1 a.length cap,.slc 1 0 1 b.length cap'] [(0,⟨.view,bys a⟩),(1,⟨.view,bys b⟩)] 2 (.bool (a == b)) [] 2:=by
  refine fun_any none cF cF_ok chk72 (show 2≤26 by decide) (by decide) ?_
  unfold sf72 oh om oq
  have hla:=len_bytes a
  have hlb:=len_bytes b
  by_cases hl:a.length=b.length
  · have e0:((a.length:Int) != (b.length:Int))=false:=by simp [hl]
    simp (config:={ maxSteps:=1000000 }) only [e0,reduceCtorEq,Nat.reduceEqDiff,↓reduceIte,BC,↓PC]
    rw [den_loop]
    refine den_inv cF_ok (σ:=Nat) (fun i=>[(5,.int .i64 (i:Int)),(1,.slc 1 0 1 b.length cap'),(0,.slc 0 0 1 a.length cap)])
      (fun _=>[(0,⟨.view,bys a⟩),(1,⟨.view,bys b⟩)]) (fun _=>2) (fun i=>i≤a.length∧a.take i=b.take i) (fun i=>a.length - i) 0 ⟨[(0,0),(1,0)],by simp [Nat.reduceAdd,Nat.reduceLeDiff,↓reduceIte,BC],by simp [Nat.reduceAdd,Nat.reduceEqDiff,Nat.reduceLeDiff,↓reduceIte,reduceCtorEq,BC]⟩ ⟨Nat.zero_le _,rfl⟩ ?_
    rintro i ⟨hi,he⟩
    by_cases h:i < a.length
    · have c1:(i:Int) < (a.length:Int):=by omega
      have c1':(i:Int) < (b.length:Int):=by omega
      have c2:(0:Int)≤(i:Int):=by omega
      have h':i < b.length:=by omega
      have wi:IntKind.i64.wrap ((i:Int)+1)=((i+1:Nat):Int):=by rw [wrap64_eq (by omega) (by omega)];omega
      obtain ⟨x,hx⟩:∃ x,a[i]?=some x:=⟨_,List.getElem?_eq_getElem h⟩
      obtain ⟨y,hy⟩:∃ y,b[i]?=some y:=⟨_,List.getElem?_eq_getElem h'⟩
      have gx:=get_bysI hx
      have gy:=get_bysI hy
      by_cases hxy:x=y
      · subst hxy
        have e1:((x.toNat:Int) != (x.toNat:Int))=false:=by simp
        simp (config:={ maxSteps:=1000000 }) only [c1,c1',c2,h,h',wi,gx,gy,e1,reduceCtorEq,Nat.reduceEqDiff,↓reduceIte,BC,↓PC]
        exact ⟨i+1,⟨[(0,0),(1,0)],by simp [Nat.reduceAdd,Nat.reduceLeDiff,↓reduceIte,BC],by simp [Nat.reduceAdd,Nat.reduceEqDiff,Nat.reduceLeDiff,↓reduceIte,reduceCtorEq,BC]⟩,⟨by omega,by rw [List.take_add_one,List.take_add_one,he,hx,hy]⟩,by omega⟩
      · have e1:((x.toNat:Int) != (y.toNat:Int))=true:=by
          rw [bne_iff_ne]
          intro h
          exact hxy (UInt8.toNat_inj.1 (by omega))
        have hf:(a == b)=false:=by
          rw [beq_eq_false_iff_ne]
          rintro rfl
          rw [hx] at hy
          exact hxy (Option.some.inj hy)
        simp (config:={ maxSteps:=1000000 }) only [c1,c1',c2,h,h',gx,gy,e1,hf,reduceCtorEq,Nat.reduceEqDiff,↓reduceIte,BC,↓PC]
        exact ⟨[(0,0),(1,0)],rfl,by simp [compat,apartM,keysBelow,idHs,BB]⟩
    · obtain rfl:i=a.length:=by omega
      have c1:¬ (a.length:Int) < (a.length:Int):=by omega
      have hf:(a == b)=true:=by
        rw [List.take_length,hl,List.take_length] at he
        rw [he];simp
      simp (config:={ maxSteps:=1000000 }) only [c1,hf,reduceCtorEq,Nat.reduceEqDiff,↓reduceIte,BC,↓PC]
      exact ⟨[(0,0),(1,0)],rfl,by simp [compat,apartM,keysBelow,idHs,BB]⟩
  · have e0:((a.length:Int) != (b.length:Int))=true:=by simp;omega
    have hf:(a == b)=false:=by
      rw [beq_eq_false_iff_ne]
      rintro rfl
      exact hl rfl
    simp (config:={ maxSteps:=1000000 }) only [e0,hf,reduceCtorEq,Nat.reduceEqDiff,↓reduceIte,BC,↓PC]
    exact ⟨[(0,0),(1,0)],rfl,by simp [compat,apartM,keysBelow,idHs,BB]⟩
theorem valB_app (a b:List UInt8):valB a * 256 ^ b.length≤valB (a++b):=by
  have hf:∀ (l:List UInt8) (a:Nat),a * 256 ^ l.length≤l.foldl (fun a c=>a * 256+c.toNat) a:=by
    intro l
    induction l with
    | nil=>intro a;simp
    | cons x l ih=>
      intro a
      have:=ih (a * 256+x.toNat)
      simp only [List.foldl_cons,List.length_cons,Nat.pow_succ]
      have h1:a * (256 ^ l.length * 256)≤(a * 256+x.toNat) * 256 ^ l.length:=by
        rw [Nat.mul_comm (256 ^ l.length) 256,← Nat.mul_assoc];exact Nat.mul_le_mul_right _ (by omega)
      omega
  have:=hf b (valB a)
  unfold valB at *
  rw [List.foldl_append];exact this
def gSame:GS
  | [.slc 0 0 1 len _,.slc 1 0 1 len' _],[(0,⟨.view,cells⟩),(1,⟨.view,cells'⟩)]=>match unB cells,unB cells' with
    | some a,some b=>if len=a.length∧len'=b.length∧a.length≤2 ^ 40 then some (.bool (a == b),[],2) else none
    | _,_=>none
  | _,_=>none
theorem gSame_ok:FunS Tryz.prog tS 84 gSame:=by
  intro a0 m0 r m1 n1 h
  unfold gSame at h
  split at h
  · split at h
    · rename_i a b ha hb
      split at h
      · rename_i hc
        obtain ⟨rfl,rfl,h1⟩:=hc
        cases h
        rw [unB_some ha,unB_some hb]
        exact ⟨f72 a b (by omega) _ _,by simp [freshB]⟩
      · cases h
    · cases h
  · cases h
def tabP:List (FuncId × GS):=[(27,gIntR),(84,gSame)]
theorem tabP_ok:∀ x ∈ tabP,FunS Tryz.prog tS x.1 x.2:=by
  intro x hx
  simp only [tabP,List.mem_cons,List.not_mem_nil,or_false] at hx
  rcases hx with rfl | rfl
  · exact gIntR_ok
  · exact gSame_ok
set_option maxHeartbeats 8000000 in
theorem f50 (b:List UInt8) (hb:b.length≤2 ^ 40) (cap:Option Nat) (hcap:CapOk cap b.length) :
    Fun Tryz.prog tS 61 [.slc 0 0 1 b.length cap] [(0,⟨.view,bys b⟩)] 1 (tup3 (decS b)) [] 1:=by
  refine fun_any none (callS tabP cF) (callS_ok tabP_ok cF_ok) chk50 (show 1≤71 by decide) (by decide) ?_
  unfold sf50 og oh om oq tup3
  cases b with
  | nil=>
    have e0:bys ([]:List UInt8)=[]:=rfl
    simp (config:={ maxSteps:=1000000 }) only [reduceCtorEq,Nat.reduceEqDiff,Int.reduceNeg,↓reduceIte,BC,↓PC]
    exact ⟨[(0,0)],⟨rfl,by simp [compat,apartM,keysBelow,idHs,BB]⟩,rfl,rfl,rfl⟩
  | cons c r=>
    have hc:=c.toNat_lt
    have g0:(bys (c :: r))[0]?=some (.int .u8 (c.toNat:Int)):=get_bysI rfl
    have hl:(c :: r).length=r.length+1:=rfl
    have hb0:(((r.length+1:Nat):Int) == 0)=false:=by simp;omega
    have hl1:(0:Int) < ((r.length+1:Nat):Int):=by omega
    have hbl:=len_bytes (c :: r)
    rw [hl] at hbl hb hcap
    have wc:IntKind.i64.wrap (c.toNat:Int)=(c.toNat:Int):=wrap64_eq (by omega) (by omega)
    by_cases h119:(c.toNat:Int) < 119
    · have hd:decS (c :: r)=(0,0,6):=by simp only [decS];rw [if_pos];unfold kOf;split <;> omega
      simp (config:={ maxSteps:=1000000 }) only [hl,hb0,hl1,hbl,g0,wc,h119,hd,Nat.zero_lt_succ,undef,reduceCtorEq,Nat.reduceEqDiff,Int.reduceToNat,Int.reduceLE,Int.reduceNeg,↓reduceIte,BC,↓PC]
      exact ⟨[(0,0)],rfl,by simp [compat,apartM,keysBelow,idHs,BB]⟩
    by_cases h136:(c.toNat:Int) > 136
    · have hd:decS (c :: r)=(0,0,6):=by simp only [decS];rw [if_pos];unfold kOf;split <;> omega
      simp (config:={ maxSteps:=1000000 }) only [hl,hb0,hl1,hbl,g0,wc,h119,h136,hd,Nat.zero_lt_succ,reduceCtorEq,Nat.reduceEqDiff,Int.reduceToNat,Int.reduceLE,Int.reduceNeg,↓reduceIte,BC,↓PC]
      exact ⟨[(0,0)],rfl,by simp [compat,apartM,keysBelow,idHs,BB]⟩
    have h8:kOf c.toNat≤8:=by unfold kOf;split <;> omega
    have key:(((c.toNat:Int) < 128)∧IntKind.i64.wrap (127 - (c.toNat:Int))=(kOf c.toNat:Int)∧c.toNat < 128)∨(¬ ((c.toNat:Int) < 128)∧IntKind.i64.wrap ((c.toNat:Int) - 128)=(kOf c.toNat:Int)∧¬ c.toNat < 128):=by
      unfold kOf
      by_cases hh:c.toNat < 128
      · left;rw [if_pos hh];exact ⟨by omega,by rw [wrap64_eq (by omega) (by omega)];omega,hh⟩
      · right;rw [if_neg hh];exact ⟨by omega,by rw [wrap64_eq (by omega) (by omega)];omega,hh⟩
    have wK:IntKind.i64.wrap ((kOf c.toNat:Int)+1)=((kOf c.toNat+1:Nat):Int):=by rw [wrap64_eq (by omega) (by omega)];omega
    have wx:IntKind.i64.wrap ((c.toNat:Int) - 128)=(c.toNat:Int) - 128:=wrap64_eq (by omega) (by omega)
    rcases key with ⟨k1,k2,k3⟩ | ⟨k1,k2,k3⟩
    all_goals
      by_cases hr:r.length < kOf c.toNat
      · have hr':((r.length+1:Nat):Int) < ((kOf c.toNat+1:Nat):Int):=by omega
        have hd:decS (c :: r)=(0,0,5):=by simp only [decS];rw [if_neg (by omega),if_pos hr]
        simp (config:={ maxSteps:=1000000 }) only [hl,hb0,hl1,hbl,g0,wc,h119,h136,k1,k2,wK,hr',hd,Nat.zero_lt_succ,reduceCtorEq,Nat.reduceEqDiff,Int.reduceToNat,Int.reduceLE,Int.reduceNeg,↓reduceIte,BC,↓PC]
        exact ⟨[(0,0)],rfl,by simp [compat,apartM,keysBelow,idHs,BB]⟩
      have hr':¬ ((r.length+1:Nat):Int) < ((kOf c.toNat+1:Nat):Int):=by omega
      simp (config:={ maxSteps:=1000000 }) only [hl,hb0,hl1,hbl,g0,wc,h119,h136,k1,k2,wK,hr',Nat.zero_lt_succ,reduceCtorEq,Nat.reduceEqDiff,Int.reduceToNat,Int.reduceLE,Int.reduceNeg,↓reduceIte,BC,↓PC]
      rw [den_loop]
      have hk8:=h8
      generalize hK:kOf c.toNat=K at *
      generalize hD:(r.take K).map (flU c.toNat)=D at *
      have hDl:D.length=K:=by rw [← hD];simp;omega
      have hdec:decS (c :: r)=if D.head?=some 0 then (0,0,6) else if valB D ≥ 9223372036854775808 then (0,0,6) else (numS c D,K+1,0):=by
        simp only [decS,hK,hD]
        rw [if_neg (by omega),if_neg hr];rfl
      refine den_inv (callS_ok tabP_ok cF_ok) (σ:=Nat) (fun i=>[(8,.int .i64 ((i+1:Nat):Int)),(7,.int .i64 (valB (D.take i):Int)),(6,.int .i64 (K:Int)),(5,.int .i64 (c.toNat:Int)),(0,.slc 0 0 1 (r.length+1) cap)])
        (fun _=>[(0,⟨.view,bys (c :: r)⟩)]) (fun _=>1) (fun i=>i≤K∧valB (D.take i) < 9223372036854775808) (fun i=>K - i) 0 ⟨[(0,0)],by simp [↓reduceIte,BC],by simp [valB,Nat.reduceEqDiff,↓reduceIte,reduceCtorEq,BC]⟩ ⟨Nat.zero_le _,by simp [valB]⟩ ?_
      rintro i ⟨hi,hlt⟩
      by_cases hiK:i < K
      · have d1:((i+1:Nat):Int)≤(K:Int):=by omega
        have d2:(0:Int)≤((i+1:Nat):Int):=by omega
        have d3:((i+1:Nat):Int) < ((r.length+1:Nat):Int):=by omega
        have wi:IntKind.i64.wrap (((i+1:Nat):Int)+1)=((i+1+1:Nat):Int):=by rw [wrap64_eq (by omega) (by omega)];omega
        obtain ⟨y,hy⟩:∃ y,r[i]?=some y:=⟨_,List.getElem?_eq_getElem (by omega)⟩
        have hyl:=y.toNat_lt
        have gy:(bys (c :: r))[i+1]?=some (.int .u8 (y.toNat:Int)):=get_bysI (by rw [List.getElem?_cons_succ];exact hy)
        have wy:IntKind.i64.wrap (y.toNat:Int)=(y.toNat:Int):=wrap64_eq (by omega) (by omega)
        have wy2:IntKind.i64.wrap (255 - (y.toNat:Int))=255 - (y.toNat:Int):=wrap64_eq (by omega) (by omega)
        have hDi:D[i]?=some (flU c.toNat y):=by
          rw [← hD,List.getElem?_map,List.getElem?_take_of_lt hiK,hy];rfl
        have hv:valB (D.take (i+1))=valB (D.take i) * 256+(flU c.toNat y).toNat:=by
          rw [List.take_add_one,hDi];exact valB_snoc _ _
        have hfv:(flU c.toNat y).toNat=if c.toNat < 128 then 255 - y.toNat else y.toNat:=by
          unfold flU
          by_cases hh:c.toNat < 128
          · rw [if_pos hh,if_pos hh,UInt8.toNat_ofNat'];omega
          · rw [if_neg hh,if_neg hh]
        have q1:i+1 < r.length+1:=by omega
        by_cases hbig:(valB (D.take i):Int) > 36028797018963967
        · have hd:decS (c :: r)=(0,0,6):=by
            have hge:valB D ≥ 9223372036854775808:=by
              have h1:=valB_app (D.take i) (D.drop i)
              rw [List.take_append_drop] at h1
              have h2:256 ^ 1≤256 ^ (D.drop i).length:=Nat.pow_le_pow_right (by decide) (by simp;omega)
              have h3:36028797018963968 * 256 ^ 1≤valB (D.take i) * 256 ^ (D.drop i).length:=Nat.mul_le_mul (by omega) h2
              omega
            rw [hdec]
            by_cases hz:D.head?=some 0
            · rw [if_pos hz]
            · rw [if_neg hz,if_pos hge]
          simp (config:={ maxSteps:=1000000 }) only [hbl,gy,d1,d2,d3,q1,wy,wy2,k1,hbig,hd,reduceCtorEq,Nat.reduceEqDiff,Int.reduceNeg,↓reduceIte,BC,↓PC]
          exact ⟨[(0,0)],rfl,by simp [compat,apartM,keysBelow,idHs,BB]⟩
        · have w1:IntKind.i64.wrap (256 * (valB (D.take i):Int))=256 * (valB (D.take i):Int):=wrap64_eq (by omega) (by omega)
          have w2:IntKind.i64.wrap (256 * (valB (D.take i):Int)+(255 - (y.toNat:Int)))=256 * (valB (D.take i):Int)+(255 - (y.toNat:Int)):=wrap64_eq (by omega) (by omega)
          have w3:IntKind.i64.wrap (256 * (valB (D.take i):Int)+(y.toNat:Int))=256 * (valB (D.take i):Int)+(y.toNat:Int):=wrap64_eq (by omega) (by omega)
          simp (config:={ maxSteps:=1000000 }) only [hbl,gy,d1,d2,d3,q1,wi,wy,wy2,k1,hbig,w1,w2,w3,reduceCtorEq,Nat.reduceEqDiff,Int.reduceNeg,↓reduceIte,BC,↓PC]
          have hv2:(valB (D.take (i+1)):Int)=256 * (valB (D.take i):Int)+((flU c.toNat y).toNat:Int):=by rw [hv];omega
          refine ⟨i+1,⟨[(0,0)],by simp [↓reduceIte,BC],?_⟩,⟨by omega,?_⟩,by omega⟩
          · rw [hv2,hfv]
            simp only [k3,Nat.reduceSub,Nat.reduceEqDiff,↓reduceIte,reduceCtorEq,BC]
            try (congr 2;omega)
          · rw [hv,hfv]
            split <;> omega
      · obtain rfl:i=K:=by omega
        rw [show D.take i=D from List.take_of_length_le (by omega)] at hlt ⊢
        have d1:¬ ((i+1:Nat):Int)≤(i:Int):=by omega
        obtain ⟨hn,hm,hs⟩:=numS_facts (c:=c) hlt
        have hnum:numS c D=if c.toNat < 128 then -1 - (valB D:Int) else (valB D:Int):=rfl
        have wn:IntKind.i64.wrap (-1 - (valB D:Int))=-1 - (valB D:Int):=wrap64_eq (by omega) (by omega)
        have tk:List.take (i+1) (bys (c :: r))=bys (c :: r.take i):=by
          simp only [bys,List.map_cons,List.take_succ_cons,List.map_take]
        have ltk:(c :: r.take i).length=i+1:=by simp;omega
        have hb40:(encR (numS c D)).length≤2 ^ 40:=by have:=encR_len (numS c D);omega
        have hfl:=flat_bytes (c :: r.take i)
        have hsm:(encR (numS c D) == c :: r.take i) = !(decide (D.head?=some 0)):=by
          rw [← enc_same hn]
          by_cases hz:D.head?=some 0
          · have:=enc_of_zero (c:=c) hz hlt
            rw [hDl] at this
            rw [decide_eq_true hz,Bool.not_true,beq_eq_false_iff_ne]
            intro h
            rw [h,ltk] at this
            exact this rfl
          · have:=enc_of_dec (c:=c) (r:=r) (by omega) (by omega) (by rw [hK,hD];exact hz) (by rw [hK,hD];exact hlt)
            rw [hK,hD] at this
            rw [decide_eq_false hz,this];simp
        have hdec2:decS (c :: r)=if D.head?=some 0 then (0,0,6) else (numS c D,i+1,0):=by
          rw [hdec]
          by_cases hz:D.head?=some 0
          · rw [if_pos hz,if_pos hz]
          · rw [if_neg hz,if_neg hz,if_neg (by omega)]
        simp only [hnum,k3,if_true,if_false] at hsm hb40 hdec2
        have kk:(0:Int)≤((i+1:Nat):Int):=by omega
        have kk2:((i+1:Nat):Int)≤((r.length+1:Nat):Int):=by omega
        have kk3:i+1≤r.length+1:=by omega
        simp (config:={ maxSteps:=1000000 }) only [tabP,gIntR,gSame,hbl,d1,k1,wn,wK,tk,ltk,unB_bytes,hb40,hfl,hsm,kk,kk2,kk3,reduceCtorEq,Nat.reduceEqDiff,Nat.reduceAdd,Nat.reduceSub,Nat.reduceLeDiff,Nat.reduceLT,Int.reduceToNat,Int.reduceLE,Int.reduceNeg,↓reduceIte,evA,BC,↓PC]
        refine ⟨by cases cap with
          | none=>trivial
          | some q=>exact hcap q rfl,?_,?_⟩
        · intro h
          rw [Bool.not_not] at h
          rw [hdec2,if_pos (of_decide_eq_true h)]
          exact ⟨[(0,0)],⟨rfl,by simp [compat,apartM,keysBelow,idHs,BB]⟩,rfl,rfl,rfl⟩
        · intro h
          rw [Bool.not_not] at h
          rw [hdec2,if_neg (of_decide_eq_false h)]
          exact ⟨[(0,0)],⟨rfl,by simp [compat,apartM,keysBelow,idHs,BB]⟩,rfl,rfl,rfl⟩
def gGetIntR:GS
  | [.slc 0 0 1 len cap],[(0,⟨.view,cells⟩)]=>match unB cells with
    | some b=>if len=b.length∧b.length≤2 ^ 40 then (match capB cap b.length with
      | true=>some (tup3 (decS b),[],1)
      | false=>none) else none
    | none=>none
  | _,_=>none
theorem gGetIntR_ok:FunS Tryz.prog tS 61 gGetIntR:=by
  intro a0 m0 r m1 n1 h
  unfold gGetIntR at h
  split at h
  · split at h
    · rename_i b hb
      split at h
      · rename_i hc
        split at h
        · rename_i hcap
          cases h
          obtain ⟨rfl,h1⟩:=hc
          rw [unB_some hb]
          exact ⟨f50 b h1 _ (capB_ok hcap),by simp [freshB]⟩
        · cases h
      · cases h
    · cases h
  · cases h
end Go.Proofs.YtkfbkooobfepeaaGreatDoor

/- Package wire and the reference: the reading of counts and of texts. -/
namespace Go.Proofs.YtkfbkooobfepeaaGreatDoor
open Go Go.Sx Sf
set_option maxRecDepth 100000
set_option linter.unusedVariables false
variable {tS:List (Nat × List SV)}
theorem dec_err {b:List UInt8} {n:Int} {u:Nat} {e:Int} (h:decS b=(n,u,e)):(e=0∧R64 n∧u≤b.length∧0 < u)∨(e≠0∧n=0∧u=0):=by
  by_cases he:e=0
  · subst he
    obtain ⟨h1,h2,h3⟩:=enc_dec h
    refine .inl ⟨rfl,h1,h2,?_⟩
    have:=congrArg List.length h3
    simp only [encI,List.length_cons,List.length_take] at this
    omega
  · refine .inr ⟨he,?_⟩
    unfold decS at h
    split at h
    · simp at h;exact ⟨h.1.symm,h.2.1.symm⟩
    · split at h
      · simp at h;exact ⟨h.1.symm,h.2.1.symm⟩
      · split at h
        · simp at h;exact ⟨h.1.symm,h.2.1.symm⟩
        · split at h
          · simp at h;exact ⟨h.1.symm,h.2.1.symm⟩
          · split at h
            · simp at h;exact ⟨h.1.symm,h.2.1.symm⟩
            · simp only [Prod.mk.injEq] at h
              exact absurd h.2.2.symm he
def tabQ:List (FuncId × GS):=[(55,gGetInt),(61,gGetIntR)]
theorem tabQ_ok:∀ x ∈ tabQ,FunS Tryz.prog tS x.1 x.2:=by
  intro x hx
  simp only [tabQ,List.mem_cons,List.not_mem_nil,or_false] at hx
  rcases hx with rfl | rfl
  · exact gGetInt_ok
  · exact gGetIntR_ok
def cntE (b:List UInt8) (s:Nat):Int:=if (decS b).2.2≠0 then (decS b).2.2 else if (decS b).1 < 0 then 6 else if (decS b).1 > (((b.length - (decS b).2.1) / s:Nat):Int) then 5 else 0
def cntP (b:List UInt8) (s:Nat):Int × Nat × Int:=((decS b).1,(decS b).2.1,cntE b s)
def cntR (b:List UInt8) (s:Nat):Int × Nat × Int:=if cntE b s≠0 then (0,0,cntE b s) else ((decS b).1,(decS b).2.1,0)
theorem f69 (b:List UInt8) (s:Nat) (hs:1≤s) (hs2:s≤1000) (hb:b.length≤2 ^ 40) :
    Fun Tryz.prog tS 68 [.slc 0 0 1 b.length none,.int .i64 (s:Int)] [(0,⟨.view,bys b⟩)] 1 (tup3 (cntP b s)) [] 1:=by
  refine fun_any none (callS tabQ cF) (callS_ok tabQ_ok cF_ok) chk69 (show 2≤31 by decide) (by decide) ?_
  unfold sf69 om oq tup3 cntP cntE
  have fl:=flat_bytes b
  rcases hx:decS b with ⟨n,u,e⟩
  simp only
  rcases dec_err hx with ⟨rfl,h1,h2,h3⟩ | ⟨he,rfl,rfl⟩
  · have w1:IntKind.i64.wrap ((b.length:Int) - (u:Int))=((b.length - u:Nat):Int):=by rw [wrap64_eq (by omega) (by omega)];omega
    have w2:IntKind.i64.wrap (((b.length - u:Nat):Int).tdiv (s:Int))=(((b.length - u) / s:Nat):Int):=by
      have e1:((b.length - u:Nat):Int).tdiv (s:Int)=(((b.length - u) / s:Nat):Int):=(Int.ofNat_tdiv _ _).symm
      have:=Nat.div_le_self (b.length - u) s
      rw [e1]
      generalize (b.length - u) / s=q at *
      exact wrap64_eq (by omega) (by omega)
    have s0:(s:Int)≠0:=by omega
    by_cases hn:n < 0
    · simp (config:={ maxSteps:=1000000 }) only [tabQ,gGetInt,unB_bytes,hb,fl,capB,hx,tup3,hn,Int.reduceBNe,reduceCtorEq,Nat.reduceEqDiff,Nat.reduceSub,Nat.reduceLT,Int.reduceNe,↓reduceIte,BC,↓PC]
      exact ⟨[(0,0)],rfl,by simp [compat,apartM,keysBelow,idHs,BB]⟩
    · by_cases hq:n > (((b.length - u) / s:Nat):Int)
      · simp (config:={ maxSteps:=1000000 }) only [tabQ,gGetInt,unB_bytes,hb,fl,capB,hx,tup3,hn,hq,w1,w2,Int.reduceBNe,reduceCtorEq,Nat.reduceEqDiff,Nat.reduceSub,Nat.reduceLT,Int.reduceNe,↓reduceIte,BC,↓PC]
        exact ⟨s0,[(0,0)],rfl,by simp [compat,apartM,keysBelow,idHs,BB]⟩
      · simp (config:={ maxSteps:=1000000 }) only [tabQ,gGetInt,unB_bytes,hb,fl,capB,hx,tup3,hn,hq,w1,w2,Int.reduceBNe,reduceCtorEq,Nat.reduceEqDiff,Nat.reduceSub,Nat.reduceLT,Int.reduceNe,↓reduceIte,BC,↓PC]
        exact ⟨s0,[(0,0)],rfl,by simp [compat,apartM,keysBelow,idHs,BB]⟩
  · have he':(e != 0)=true:=by simpa using he
    simp (config:={ maxSteps:=1000000 }) only [tabQ,gGetInt,unB_bytes,hb,fl,capB,hx,tup3,he',reduceCtorEq,Nat.reduceEqDiff,Nat.reduceSub,Nat.reduceLT,Int.reduceLT,↓reduceIte,BC,↓PC]
    exact ⟨[(0,0)],⟨rfl,by simp [compat,apartM,keysBelow,idHs,BB]⟩,by rw [if_pos he]⟩
theorem f71 (b:List UInt8) (s:Nat) (hs:1≤s) (hs2:s≤1000) (hb:b.length≤2 ^ 40) :
    Fun Tryz.prog tS 85 [.slc 0 0 1 b.length none,.int .i64 (s:Int)] [(0,⟨.view,bys b⟩)] 1 (tup3 (cntR b s)) [] 1:=by
  refine fun_any none (callS tabQ cF) (callS_ok tabQ_ok cF_ok) chk71 (show 2≤37 by decide) (by decide) ?_
  unfold sf71 og om oq tup3 cntR cntE
  have fl:=flat_bytes b
  rcases hx:decS b with ⟨n,u,e⟩
  simp only
  rcases dec_err hx with ⟨rfl,h1,h2,h3⟩ | ⟨he,rfl,rfl⟩
  · have w1:IntKind.i64.wrap ((b.length:Int) - (u:Int))=((b.length - u:Nat):Int):=by rw [wrap64_eq (by omega) (by omega)];omega
    by_cases hn:n < 0
    · simp (config:={ maxSteps:=1000000 }) only [tabQ,gGetIntR,unB_bytes,hb,fl,capB,hx,tup3,hn,Int.reduceEq,Int.reduceBNe,reduceCtorEq,Nat.reduceEqDiff,Nat.reduceSub,Nat.reduceLT,Int.reduceEq,↓reduceIte,BC,↓PC]
      exact ⟨[(0,0)],rfl,by simp [compat,apartM,keysBelow,idHs,BB]⟩
    · have hle:=Nat.div_le_self (b.length - u) s
      have hdm:n≤(b.length:Int)→((n * (s:Int) > ((b.length - u:Nat):Int))↔n > (((b.length - u) / s:Nat):Int)):=by
        intro hnl
        obtain ⟨k,rfl⟩:∃ k:Nat,n=(k:Int):=⟨n.toNat,by omega⟩
        have hk:=Nat.div_lt_iff_lt_mul (x:=b.length - u) (y:=k) (k:=s) (by omega)
        constructor
        · intro h
          have:(k * s:Nat) > b.length - u:=by exact_mod_cast h
          have:=hk.2 (by omega)
          omega
        · intro h
          have:=hk.1 (by omega)
          have:(k * s:Nat) > b.length - u:=by omega
          exact_mod_cast this
      by_cases hl:n > (b.length:Int)
      · have hq:n > (((b.length - u) / s:Nat):Int):=by omega
        simp (config:={ maxSteps:=1000000 }) only [tabQ,gGetIntR,unB_bytes,hb,fl,capB,hx,tup3,hn,hl,hq,Int.reduceEq,undef,Int.reduceBNe,reduceCtorEq,Nat.reduceEqDiff,Nat.reduceSub,Nat.reduceLT,Int.reduceEq,↓reduceIte,BC,↓PC]
        exact ⟨[(0,0)],rfl,by simp [compat,apartM,keysBelow,idHs,BB]⟩
      · have w2:IntKind.i64.wrap (n * (s:Int))=n * (s:Int):=by
          have h1:0≤n * (s:Int):=Int.mul_nonneg (by omega) (by omega)
          have h2:n * (s:Int)≤1099511627776 * 1000:=Int.mul_le_mul (by omega) (by omega) (by omega) (by omega)
          exact wrap64_eq (by omega) (by omega)
        have hd:=hdm (by omega)
        by_cases hq:n > (((b.length - u) / s:Nat):Int)
        · have hq2:=hd.2 hq
          simp (config:={ maxSteps:=1000000 }) only [tabQ,gGetIntR,unB_bytes,hb,fl,capB,hx,tup3,hn,hl,hq,hq2,w1,w2,Int.reduceEq,Int.reduceBNe,reduceCtorEq,Nat.reduceEqDiff,Nat.reduceSub,Nat.reduceLT,Int.reduceEq,↓reduceIte,BC,↓PC]
          exact ⟨[(0,0)],rfl,by simp [compat,apartM,keysBelow,idHs,BB]⟩
        · have hq2:¬ n * (s:Int) > ((b.length - u:Nat):Int):=fun h=>hq (hd.1 h)
          simp (config:={ maxSteps:=1000000 }) only [tabQ,gGetIntR,unB_bytes,hb,fl,capB,hx,tup3,hn,hl,hq,hq2,w1,w2,Int.reduceBNe,reduceCtorEq,Nat.reduceEqDiff,Nat.reduceSub,Nat.reduceLT,↓reduceIte,BC,↓PC]
          exact ⟨[(0,0)],rfl,by simp [compat,apartM,keysBelow,idHs,BB]⟩
  · have he':(e != 0)=true:=by simpa using he
    have he2:(e=0)=False:=by simpa using he
    simp (config:={ maxSteps:=1000000 }) only [tabQ,gGetIntR,unB_bytes,hb,fl,capB,hx,tup3,he,he',reduceCtorEq,Nat.reduceEqDiff,Nat.reduceSub,Nat.reduceLT,↓reduceIte,BC,↓PC]
    exact ⟨[(0,0)],rfl,by simp [compat,apartM,keysBelow,idHs,BB]⟩
def gCnt (c:List UInt8→Nat→Int × Nat × Int):GS
  | [.slc 0 0 1 len none,.int .i64 z],[(0,⟨.view,cells⟩)]=>match unB cells with
    | some b=>if len=b.length∧b.length≤2 ^ 40∧1≤z.toNat∧z.toNat≤1000∧z=(z.toNat:Int) then some (tup3 (c b z.toNat),[],1) else none
    | none=>none
  | _,_=>none
theorem gCnt_eq {c:List UInt8→Nat→Int × Nat × Int} {b:List UInt8} {s:Nat} (hb:b.length≤2 ^ 40) (h1:1≤s) (h2:s≤1000) :
    gCnt c [.slc 0 0 1 b.length none,.int .i64 (s:Int)] [(0,⟨.view,bys b⟩)]=some (tup3 (c b s),[],1):=by
  unfold gCnt
  simp only [unB_bytes,Int.toNat_natCast,hb,h1,h2,and_self,if_true]
theorem gCnt_ok {f:FuncId} {c:List UInt8→Nat→Int × Nat × Int} (h:∀ (b:List UInt8) (s:Nat),1≤s→s≤1000→b.length≤2 ^ 40 →
    Fun Tryz.prog tS f [.slc 0 0 1 b.length none,.int .i64 (s:Int)] [(0,⟨.view,bys b⟩)] 1 (tup3 (c b s)) [] 1):FunS Tryz.prog tS f (gCnt c):=by
  intro a0 m0 r m1 n1 hr
  unfold gCnt at hr
  split at hr
  · split at hr
    · rename_i b hb
      split at hr
      · rename_i hc
        obtain ⟨rfl,h1,h2,h3,h4⟩:=hc
        cases hr
        rw [unB_some hb,h4]
        exact ⟨h b _ h2 h3 h1,by simp [freshB]⟩
      · cases hr
    · cases hr
  · cases hr
end Go.Proofs.YtkfbkooobfepeaaGreatDoor

/- Package wire and the reference: the reading of texts. -/
namespace Go.Proofs.YtkfbkooobfepeaaGreatDoor
open Go Go.Sx Sf
set_option maxRecDepth 100000
set_option linter.unusedVariables false
variable {tS:List (Nat × List SV)}
theorem cnt_ok {b:List UInt8} {s:Nat} (h:cntE b s=0):∃ n u:Nat,decS b=((n:Int),u,0)∧u≤b.length∧n≤(b.length - u) / s∧0 < u:=by
  rcases hx:decS b with ⟨n,u,e⟩
  unfold cntE at h
  rw [hx] at h
  simp only at h
  split at h
  · rename_i he;exact absurd h he
  · rename_i he
    have he:e=0:=by simpa using he
    subst he
    rcases dec_err hx with ⟨_,h1,h2,h3⟩ | ⟨he,_⟩
    · split at h
      · simp at h
      · split at h
        · simp at h
        · exact ⟨n.toNat,u,by rw [show n=((n.toNat:Nat):Int) by omega];simp,h2,by omega,h3⟩
    · exact absurd rfl he
def bytS (b:List UInt8):List UInt8 × Nat × Int:=if cntE b 1≠0 then ([],0,cntE b 1) else ((b.drop (decS b).2.1).take (decS b).1.toNat,(decS b).2.1+(decS b).1.toNat,0)
def tupB (x:List UInt8 × Nat × Int):SV:=.tup [.str x.1,.int .i64 (x.2.1:Int),.int .i64 x.2.2]
def tabR:List (FuncId × GS):=[(68,gCnt cntP),(85,gCnt cntR)]
theorem tabR_ok:∀ x ∈ tabR,FunS Tryz.prog tS x.1 x.2:=by
  intro x hx
  simp only [tabR,List.mem_cons,List.not_mem_nil,or_false] at hx
  rcases hx with rfl | rfl
  · exact gCnt_ok f69
  · exact gCnt_ok f71
theorem drop_bys (b:List UInt8) (k:Nat):List.drop k (bys b)=bys (b.drop k):=by simp [bys]
theorem takeB (b:List UInt8) (k:Nat):List.take k (bys b)=bys (b.take k):=by simp [bys]
theorem f60 (b:List UInt8) (hb:b.length≤2 ^ 40) :
    Fun Tryz.prog tS 56 [.slc 0 0 1 b.length none] [(0,⟨.view,bys b⟩)] 1 (tupB (bytS b)) [] 1:=by
  refine fun_any none (callS tabR cF) (callS_ok tabR_ok cF_ok) chk60 (show 1≤27 by decide) (by decide) ?_
  unfold sf60 om oq tupB bytS
  have fl:=flat_bytes b
  have g1:gCnt cntP [.slc 0 0 1 b.length none,.int .i64 1] [(0,⟨.view,bys b⟩)]=some (tup3 (cntP b 1),[],1):=gCnt_eq (s:=1) hb (by decide) (by decide)
  by_cases he:cntE b 1=0
  · obtain ⟨n,u,hx,h1,h2,h3⟩:=cnt_ok he
    have hc:cntP b 1=((n:Int),u,0):=by unfold cntP;rw [hx,he]
    rw [hc] at g1
    rw [Nat.div_one] at h2
    have w1:IntKind.i64.wrap ((u:Int)+(n:Int))=((u+n:Nat):Int):=by rw [wrap64_eq (by omega) (by omega)];omega
    have k1:(0:Int)≤(u:Int):=by omega
    have k2:(u:Int)≤((u+n:Nat):Int):=by omega
    have k3:((u+n:Nat):Int)≤(b.length:Int):=by omega
    have k4:u+n - u=n:=by omega
    have k5:u+n≤b.length:=by omega
    have tk:=takeB (b.drop u) n
    simp (config:={ maxSteps:=1000000 }) only [tabR,↓g1,fl,tup3,he,hx,w1,k1,k2,k3,k4,k5,drop_bys,tk,Int.reduceBNe,reduceCtorEq,Nat.reduceEqDiff,Nat.reduceSub,Nat.reduceLT,↓reduceIte,BC,↓PC]
    exact ⟨all_isU8 _,[(0,0)],⟨rfl,by simp [compat,apartM,keysBelow,idHs,BB]⟩,by rw [map_byteOf]⟩
  · have he':(cntE b 1 != 0)=true:=by simpa using he
    have hc:∃ n u,cntP b 1=(n,u,cntE b 1):=⟨_,_,rfl⟩
    obtain ⟨n,u,hc⟩:=hc
    rw [hc] at g1
    simp (config:={ maxSteps:=1000000 }) only [tabR,↓g1,fl,tup3,he,he',reduceCtorEq,Nat.reduceEqDiff,Nat.reduceSub,Nat.reduceLT,↓reduceIte,BC,↓PC]
    exact ⟨[(0,0)],rfl,by simp [compat,apartM,keysBelow,idHs,BB]⟩
theorem f49 (b:List UInt8) (hb:b.length≤2 ^ 40) :
    Fun Tryz.prog tS 62 [.slc 0 0 1 b.length none] [(0,⟨.view,bys b⟩)] 1 (tupB (bytS b)) [] 1:=by
  refine fun_any none (callS tabR cF) (callS_ok tabR_ok cF_ok) chk49 (show 1≤27 by decide) (by decide) ?_
  unfold sf49 om oq tupB bytS
  have fl:=flat_bytes b
  have g1:gCnt cntR [.slc 0 0 1 b.length none,.int .i64 1] [(0,⟨.view,bys b⟩)]=some (tup3 (cntR b 1),[],1):=gCnt_eq (s:=1) hb (by decide) (by decide)
  by_cases he:cntE b 1=0
  · obtain ⟨n,u,hx,h1,h2,h3⟩:=cnt_ok he
    have hc:cntR b 1=((n:Int),u,0):=by unfold cntR;rw [hx,he];rfl
    rw [hc] at g1
    rw [Nat.div_one] at h2
    have w1:IntKind.i64.wrap ((u:Int)+(n:Int))=((u+n:Nat):Int):=by rw [wrap64_eq (by omega) (by omega)];omega
    have k1:(0:Int)≤(u:Int):=by omega
    have k2:(u:Int)≤((u+n:Nat):Int):=by omega
    have k3:((u+n:Nat):Int)≤(b.length:Int):=by omega
    have k4:u+n - u=n:=by omega
    have k5:u+n≤b.length:=by omega
    have tk:=takeB (b.drop u) n
    simp (config:={ maxSteps:=1000000 }) only [tabR,↓g1,fl,tup3,he,hx,w1,k1,k2,k3,k4,k5,drop_bys,tk,Int.reduceBNe,reduceCtorEq,Nat.reduceEqDiff,Nat.reduceSub,Nat.reduceLT,↓reduceIte,BC,↓PC]
    exact ⟨all_isU8 _,[(0,0)],⟨rfl,by simp [compat,apartM,keysBelow,idHs,BB]⟩,by rw [map_byteOf]⟩
  · have he':(cntE b 1 != 0)=true:=by simpa using he
    have hc:∃ n u,cntR b 1=(n,u,cntE b 1):=⟨0,0,by unfold cntR;rw [if_pos he]⟩
    obtain ⟨n,u,hc⟩:=hc
    rw [hc] at g1
    simp (config:={ maxSteps:=1000000 }) only [tabR,↓g1,fl,tup3,he,he',reduceCtorEq,Nat.reduceEqDiff,Nat.reduceSub,Nat.reduceLT,↓reduceIte,BC,↓PC]
    exact ⟨[(0,0)],rfl,by simp [compat,apartM,keysBelow,idHs,BB]⟩
def gGetBytes:GS
  | [.slc 0 0 1 len none],[(0,⟨.view,cells⟩)]=>match unB cells with
    | some b=>if len=b.length∧b.length≤2 ^ 40 then some (tupB (bytS b),[],1) else none
    | none=>none
  | _,_=>none
theorem gGetBytes_ok {f:FuncId} (h:∀ b:List UInt8,b.length≤2 ^ 40→Fun Tryz.prog tS f [.slc 0 0 1 b.length none] [(0,⟨.view,bys b⟩)] 1 (tupB (bytS b)) [] 1):FunS Tryz.prog tS f gGetBytes:=by
  intro a0 m0 r m1 n1 hr
  unfold gGetBytes at hr
  split at hr
  · split at hr
    · rename_i b hb
      split at hr
      · rename_i hc
        obtain ⟨rfl,h1⟩:=hc
        cases hr
        rw [unB_some hb]
        exact ⟨h b h1,by simp [freshB]⟩
      · cases hr
    · cases hr
  · cases hr
end Go.Proofs.YtkfbkooobfepeaaGreatDoor

/- The digests of an encoding. -/
namespace Go.Proofs.YtkfbkooobfepeaaGreatDoor
open Go Go.Sx Sf
set_option maxRecDepth 100000
set_option linter.unusedVariables false
variable {tS:List (Nat × List SV)}
def dgsN (b:List UInt8):Nat:=if cntE b 16≠0 then 0 else (decS b).1.toNat
def dgsU (b:List UInt8):Nat:=if cntE b 16≠0 then 0 else (decS b).2.1+16 * (decS b).1.toNat
def dgsX (b:List UInt8):List UInt8:=if cntE b 16≠0 then [] else (b.drop (decS b).2.1).take (16 * (decS b).1.toNat)
def dgsR (b:List UInt8):SV:=.tup [nlS 1 16 (dgsN b),.int .i64 (dgsU b:Int),.int .i64 (cntE b 16)]
theorem dgX_step {b:List UInt8} {u i:Nat}:(b.drop u).take (16 * i)++(b.drop (u+16 * i)).take 16=(b.drop u).take (16 * (i+1)):=by
  rw [show 16 * (i+1)=16 * i+16 by omega,List.take_add,List.drop_drop]
set_option maxHeartbeats 4000000 in
theorem f61 (b:List UInt8) (hb:b.length≤2 ^ 36):Fun Tryz.prog tS 57 [.slc 0 0 1 b.length none] [(0,⟨.view,bys b⟩)] 1
    (dgsR b) (nlM 1 23 (bys (dgsX b)) [] (dgsN b)) (nlN 1 (dgsN b)):=by
  refine fun_any none (callS tabR cF) (callS_ok tabR_ok cF_ok) chk61 (show 1≤36 by decide) (by cases dgsN b <;> simp [nlN]) ?_
  unfold sf61 om oq
  have hb40:b.length≤2 ^ 40:=by omega
  have fl:=flat_bytes b
  have tb:=take_bytes b
  have g1:gCnt cntP [.slc 0 0 1 b.length none,.int .i64 16] [(0,⟨.view,bys b⟩)]=some (tup3 (cntP b 16),[],1):=gCnt_eq (s:=16) hb40 (by decide) (by decide)
  by_cases he:cntE b 16=0
  · obtain ⟨n,u,hx,h1,h2,h3⟩:=cnt_ok he
    have hN:dgsN b=n:=by unfold dgsN;rw [he,hx];simp
    have hU:dgsU b=u+16 * n:=by unfold dgsU;rw [he,hx];simp
    have hX:dgsX b=(b.drop u).take (16 * n):=by unfold dgsX;rw [he,hx];simp
    have hc:cntP b 16=((n:Int),u,0):=by unfold cntP;rw [hx,he]
    have h4:16 * n≤b.length - u:=by have:=Nat.mul_le_mul_left 16 h2;have:=Nat.mul_div_le (b.length - u) 16;omega
    rw [hc] at g1
    unfold dgsR
    rw [hN,hU,hX,he]
    simp (config:={ maxSteps:=1000000 }) only [tabR,↓g1,fl,tb,tup3,Int.reduceBNe,reduceCtorEq,Nat.reduceEqDiff,Nat.reduceSub,Nat.reduceLT,↓reduceIte,BC,↓PC]
    rw [den_loop]
    have rB:∀ η,SV.renL η (bys b)=bys b:=fun η=>ren_bytes η b
    refine den_inv (callS_ok tabR_ok cF_ok) (σ:=Nat) (fun i=>[(19,.int .i64 (i:Int)),(18,.int .i64 (n:Int)),(8,nlS 1 16 i),(6,.int .i64 ((u+16 * i:Nat):Int)),(0,.slc 0 0 1 b.length none)])
      (fun i=>nlM 1 23 (bys ((b.drop u).take (16 * i))) [(0,⟨.view,bys b⟩)] i) (fun i=>nlN 1 i) (fun i=>i≤n) (fun i=>n - i) 0 ?_ (Nat.zero_le _) ?_
    · exact ⟨[(0,0)],by simp only [Nat.mul_zero,rB,Nat.reduceSub,Nat.reduceLT,↓reduceIte,BC],by simp [Nat.reduceEqDiff,↓reduceIte,reduceCtorEq,BC]⟩
    · intro i hi
      by_cases hin:i < n
      · have c1:(i:Int) < (n:Int):=by omega
        have v4:IntKind.i64.wrap ((i:Int)+1)=((i+1:Nat):Int):=by rw [wrap64_eq (by omega) (by omega)];omega
        have w1:IntKind.i64.wrap (((u+16 * i:Nat):Int)+16)=((u+16 * (i+1):Nat):Int):=by rw [wrap64_eq (by omega) (by omega)];omega
        have b1:(0:Int)≤((u+16 * i:Nat):Int):=by omega
        have b2:((u+16 * i:Nat):Int)≤((u+16 * (i+1):Nat):Int):=by omega
        have b3:u+16 * (i+1)≤b.length:=by omega
        have b4:u+16 * (i+1) - (u+16 * i)=16:=by omega
        have hD:((b.drop (u+16 * i)).take 16).length=16:=by simp;omega
        have tD:List.take 16 (List.drop (u+16 * i) (bys b))=bys ((b.drop (u+16 * i)).take 16):=by simp [bys,List.map_take,List.map_drop]
        have hst:=dgX_step (b:=b) (u:=u) (i:=i)
        have lX:((b.drop u).take (16 * i)).length=16 * i:=by simp;omega
        have lX1:((b.drop u).take (16 * (i+1))).length=16 * (i+1):=by simp;omega
        generalize hDe:(b.drop (u+16 * i)).take 16=D at *
        have lD:(bys D).length=16:=by rw [len_bytes,hD]
        have ttD:List.take 16 (bys D)=bys D:=List.take_of_length_le (by omega)
        have ap:bys ((b.drop u).take (16 * i))++bys D=bys ((b.drop u).take (16 * (i+1))):=by rw [bytes_app,hst]
        have tX:List.take (i * 16) (bys ((b.drop u).take (16 * i)))=bys ((b.drop u).take (16 * i)):=List.take_of_length_le (by rw [len_bytes,lX];omega)
        rcases Nat.eq_zero_or_pos i with h0 | h0
        · have ap0:bys D=bys ((b.drop u).take (16 * (i+1))):=by rw [← hst,h0];simp
          rw [nlS_z h0,nlM_z h0,nlN_z h0]
          have b5:u+16 * i < b.length:=by omega
          simp (config:={ maxSteps:=1000000 }) only [c1,v4,w1,b1,b2,b4,tD,lD,ttD,reduceCtorEq,Nat.reduceEqDiff,Nat.reduceAdd,Nat.reduceMul,Nat.reduceLT,↓reduceIte,splice,BC,↓PC]
          refine ⟨by omega,b5,by omega,by omega,by omega,i+1,?_,by omega,by omega⟩
          rw [nlS_p (Nat.succ_pos i),nlM_p (Nat.succ_pos i),nlN_p (Nat.succ_pos i),← ap0]
          exact ⟨[(0,0),(2,0)],by simp [rB,Nat.reduceAdd,Nat.reduceLeDiff,↓reduceIte,reduceCtorEq,BC],by simp [h0,Nat.reduceAdd,Nat.reduceEqDiff,Nat.reduceLeDiff,↓reduceIte,reduceCtorEq,BC]⟩
        · rw [nlS_p h0,nlM_p h0,nlN_p h0]
          simp (config:={ maxSteps:=1000000 }) only [c1,v4,w1,b1,b2,b4,tD,lD,ttD,tX,lX,ap,reduceCtorEq,Nat.reduceEqDiff,Nat.reduceAdd,Nat.reduceMul,Nat.reduceLT,↓reduceIte,splice,BC,↓PC]
          refine ⟨by omega,by omega,by omega,by omega,by omega,by omega,i+1,?_,by omega,by omega⟩
          rw [nlS_p (Nat.succ_pos i),nlM_p (Nat.succ_pos i),nlN_p (Nat.succ_pos i)]
          exact ⟨[(0,0),(3,0)],by simp [rB,Nat.reduceAdd,Nat.reduceLeDiff,↓reduceIte,reduceCtorEq,BC],by simp [Nat.reduceAdd,Nat.reduceEqDiff,Nat.reduceLeDiff,↓reduceIte,reduceCtorEq,BC]⟩
      · obtain rfl:i=n:=by omega
        have c3:decide ((i:Int) < (i:Int))=false:=by simp
        rcases Nat.eq_zero_or_pos i with h0 | h0
        · simp only [nlS_z h0,nlM_z h0,nlN_z h0]
          simp (config:={ maxSteps:=1000000 }) only [c3,reduceCtorEq,Nat.reduceEqDiff,↓reduceIte,BC,↓PC]
          exact ⟨[(0,0)],by simp [List.length_cons,List.length_nil,Nat.zero_add],by simp [compat,apartM,keysBelow,idHs,BB]⟩
        · simp only [nlS_p h0,nlM_p h0,nlN_p h0]
          simp (config:={ maxSteps:=1000000 }) only [c3,reduceCtorEq,Nat.reduceEqDiff,Nat.reduceAdd,↓reduceIte,BC,↓PC]
          exact ⟨[(0,0),(1,0)],by simp [Nat.reduceAdd,Nat.reduceLeDiff,↓reduceIte,BC],by simp [Nat.reduceAdd,Nat.reduceLeDiff,BB]⟩
  · have hN:dgsN b=0:=by unfold dgsN;rw [if_pos he]
    have hU:dgsU b=0:=by unfold dgsU;rw [if_pos he]
    have hX:dgsX b=[]:=by unfold dgsX;rw [if_pos he]
    have he2:(cntE b 16 != 0)=true:=by simpa using he
    unfold dgsR
    rw [hN,hU,hX]
    have hc:cntP b 16=((decS b).1,(decS b).2.1,cntE b 16):=rfl
    rw [hc] at g1
    simp (config:={ maxSteps:=1000000 }) only [tabR,↓g1,fl,tb,tup3,he2,reduceCtorEq,Nat.reduceEqDiff,Nat.reduceSub,Nat.reduceLT,↓reduceIte,BC,↓PC]
    exact ⟨[(0,0)],by simp [List.length_cons,List.length_nil,Nat.zero_add],by simp [compat,apartM,keysBelow,idHs,BB]⟩
theorem cpC_len'' {X:List UInt8} {i:Nat} (hX:16≤X.length) (h:i≤16):(cpC X i).length=16:=by simp [cpC,len_bytes];omega
set_option maxHeartbeats 8000000 in
theorem f65 (b:List UInt8) (hb:b.length≤2 ^ 36):Fun Tryz.prog tS 63 [.slc 0 0 1 b.length none] [(0,⟨.view,bys b⟩)] 1
    (dgsR b) (nlM 1 23 (bys (dgsX b)) [] (dgsN b)) (nlN 1 (dgsN b)):=by
  refine fun_any none (callS tabR cF) (callS_ok tabR_ok cF_ok) chk65 (show 1≤46 by decide) (by cases dgsN b <;> simp [nlN]) ?_
  unfold sf65 om oq ov
  have hb40:b.length≤2 ^ 40:=by omega
  have fl:=flat_bytes b
  have tb:=take_bytes b
  have g1:gCnt cntR [.slc 0 0 1 b.length none,.int .i64 16] [(0,⟨.view,bys b⟩)]=some (tup3 (cntR b 16),[],1):=gCnt_eq (s:=16) hb40 (by decide) (by decide)
  by_cases he:cntE b 16=0
  · obtain ⟨n,u,hx,h1,h2,h3⟩:=cnt_ok he
    have hN:dgsN b=n:=by unfold dgsN;rw [he,hx];simp
    have hU:dgsU b=u+16 * n:=by unfold dgsU;rw [he,hx];simp
    have hX:dgsX b=(b.drop u).take (16 * n):=by unfold dgsX;rw [he,hx];simp
    have hc:cntR b 16=((n:Int),u,0):=by unfold cntR;rw [hx,he];simp
    have h4:16 * n≤b.length - u:=by have:=Nat.mul_le_mul_left 16 h2;have:=Nat.mul_div_le (b.length - u) 16;omega
    rw [hc] at g1
    unfold dgsR
    rw [hN,hU,hX,he]
    simp (config:={ maxSteps:=1000000 }) only [tabR,↓g1,fl,tb,tup3,Int.reduceBNe,reduceCtorEq,Nat.reduceEqDiff,Nat.reduceSub,Nat.reduceLT,↓reduceIte,BC,↓PC]
    rw [den_loop]
    have rB:∀ η,SV.renL η (bys b)=bys b:=fun η=>ren_bytes η b
    have rC:∀ η X i,SV.renL η (cpC X i)=cpC X i:=fun η X i=>cpC_ren η X i
    refine den_inv (callS_ok tabR_ok cF_ok) (σ:=Nat) (fun i=>[(9,.int .i64 (i:Int)),(8,nlS 1 16 i),(6,.int .i64 ((u+16 * i:Nat):Int)),(5,.int .i64 (n:Int)),(0,.slc 0 0 1 b.length none)])
      (fun i=>nlM 1 23 (bys ((b.drop u).take (16 * i))) [(0,⟨.view,bys b⟩)] i) (fun i=>nlN 1 i) (fun i=>i≤n) (fun i=>n - i) 0 ?_ (Nat.zero_le _) ?_
    · exact ⟨[(0,0)],by simp only [Nat.mul_zero,rB,Nat.reduceSub,Nat.reduceLT,↓reduceIte,BC],by simp [Nat.reduceEqDiff,↓reduceIte,reduceCtorEq,BC]⟩
    · intro i hi
      by_cases hin:i < n
      · have c1:(i:Int) < (n:Int):=by omega
        have v4:IntKind.i64.wrap ((i:Int)+1)=((i+1:Nat):Int):=by rw [wrap64_eq (by omega) (by omega)];omega
        have w1:IntKind.i64.wrap (((u+16 * i:Nat):Int)+16)=((u+16 * (i+1):Nat):Int):=by rw [wrap64_eq (by omega) (by omega)];omega
        have hDl:16≤(b.drop (u+16 * i)).length:=by simp;omega
        have hD:((b.drop (u+16 * i)).take 16).length=16:=by simp;omega
        have hst:=dgX_step (b:=b) (u:=u) (i:=i)
        have lX:((b.drop u).take (16 * i)).length=16 * i:=by simp;omega
        generalize hDe:(b.drop (u+16 * i)).take 16=D at *
        have lD:(bys D).length=16:=by rw [len_bytes,hD]
        have ttD:List.take 16 (bys D)=bys D:=List.take_of_length_le (by omega)
        have ap:bys ((b.drop u).take (16 * i))++bys D=bys ((b.drop u).take (16 * (i+1))):=by rw [bytes_app,hst]
        have tX:List.take (i * 16) (bys ((b.drop u).take (16 * i)))=bys ((b.drop u).take (16 * i)):=List.take_of_length_le (by rw [len_bytes,lX];omega)
        rcases Nat.eq_zero_or_pos i with h0 | h0
        · have ap0:bys D=bys ((b.drop u).take (16 * (i+1))):=by rw [← hst,h0];simp
          simp only [nlS_z h0,nlM_z h0,nlN_z h0]
          simp (config:={ maxSteps:=1000000 }) only [c1,reduceCtorEq,Nat.reduceEqDiff,Nat.reduceAdd,↓reduceIte,BC,↓PC]
          rw [den_loop]
          refine den_inv (callS_ok tabR_ok cF_ok) (σ:=Nat) (fun j=>[(11,.int .i64 (j:Int)),(10,.ptr 1 0),(9,.int .i64 (i:Int)),(8,.val (.slice none 0 0)),(6,.int .i64 ((u+16 * i:Nat):Int)),(5,.int .i64 (n:Int)),(0,.slc 0 0 1 b.length none)])
            (fun j=>[(1,⟨.own 23,cpC (b.drop (u+16 * i)) j⟩),(0,⟨.view,bys b⟩)]) (fun _=>2) (fun j=>j≤16) (fun j=>16 - j) 0 ?_ (Nat.zero_le _) ?_
          · exact ⟨[(0,0),(1,0)],by simp only [rB,rC,Nat.reduceAdd,Nat.reduceSub,Nat.reduceLT,Nat.reduceLeDiff,↓reduceIte,BC] <;> rfl,by simp [Nat.reduceAdd,Nat.reduceEqDiff,Nat.reduceLeDiff,↓reduceIte,reduceCtorEq,BC]⟩
          · intro j hj
            have lC:=cpC_len'' (X:=b.drop (u+16 * i)) hDl hj
            by_cases h16:j < 16
            · obtain ⟨x,hx⟩:∃ x,b[u+16 * i+j]?=some x:=⟨b[u+16 * i+j]'(by omega),by rw [List.getElem?_eq_getElem]⟩
              have gx:=get_bysI hx
              have hx':(b.drop (u+16 * i))[j]?=some x:=by rw [List.getElem?_drop];exact hx
              have d1:(j:Int) < 16:=by omega
              have d2:(0:Int)≤(j:Int):=by omega
              have d4:IntKind.i64.wrap ((j:Int)+1)=((j+1:Nat):Int):=by rw [wrap64_eq (by omega) (by omega)];omega
              have d5:IntKind.i64.wrap (((u+16 * i:Nat):Int)+(j:Int))=((u+16 * i+j:Nat):Int):=by rw [wrap64_eq (by omega) (by omega)];omega
              have d6:(0:Int)≤((u+16 * i+j:Nat):Int):=by omega
              have d7:((u+16 * i+j:Nat):Int) < (b.length:Int):=by omega
              have op:=cpC_put hx' h16
              simp (config:={ maxSteps:=1000000 }) only [d1,d2,d4,d5,d6,d7,gx,lC,op,reduceCtorEq,Nat.reduceEqDiff,Nat.reduceLeDiff,↓reduceIte,upd,BC,↓PC]
              exact ⟨by omega,by omega,j+1,⟨[(0,0),(1,0)],by simp only [rB,rC,Nat.reduceAdd,Nat.reduceSub,Nat.reduceLT,Nat.reduceLeDiff,↓reduceIte,BC],by simp [Nat.reduceAdd,Nat.reduceEqDiff,Nat.reduceLeDiff,↓reduceIte,reduceCtorEq,BC]⟩,by omega,by omega⟩
            · obtain rfl:j=16:=by omega
              have tC:List.take 16 (cpC (b.drop (u+16 * i)) 16)=bys D:=by rw [List.take_of_length_le (by omega),cpC_all,hDe]
              simp (config:={ maxSteps:=1000000 }) only [v4,w1,tC,lC,lD,ttD,reduceCtorEq,Nat.reduceEqDiff,Nat.reduceAdd,Nat.reduceMul,Int.reduceLT,↓reduceIte,splice,BC,↓PC]
              refine ⟨by omega,by omega,i+1,?_,by omega,by omega⟩
              rw [nlS_p (Nat.succ_pos i),nlM_p (Nat.succ_pos i),nlN_p (Nat.succ_pos i),← ap0]
              exact ⟨[(0,0),(3,0)],by simp [rB,Nat.reduceAdd,Nat.reduceLeDiff,↓reduceIte,reduceCtorEq,BC],by simp [h0,Nat.reduceAdd,Nat.reduceEqDiff,Nat.reduceLeDiff,↓reduceIte,reduceCtorEq,BC]⟩
        · skip
          simp only [nlS_p h0,nlM_p h0,nlN_p h0]
          simp (config:={ maxSteps:=1000000 }) only [c1,reduceCtorEq,Nat.reduceEqDiff,Nat.reduceAdd,↓reduceIte,BC,↓PC]
          rw [den_loop]
          refine den_inv (callS_ok tabR_ok cF_ok) (σ:=Nat) (fun j=>[(11,.int .i64 (j:Int)),(10,.ptr 2 0),(9,.int .i64 (i:Int)),(8,.slc 1 0 16 i none),(6,.int .i64 ((u+16 * i:Nat):Int)),(5,.int .i64 (n:Int)),(0,.slc 0 0 1 b.length none)])
            (fun j=>[(2,⟨.own 23,cpC (b.drop (u+16 * i)) j⟩),(1,⟨.own 23,bys ((b.drop u).take (16 * i))⟩),(0,⟨.view,bys b⟩)]) (fun _=>3) (fun j=>j≤16) (fun j=>16 - j) 0 ?_ (Nat.zero_le _) ?_
          · exact ⟨[(0,0),(1,0),(2,0)],by simp only [rB,rC,Nat.reduceAdd,Nat.reduceSub,Nat.reduceLT,Nat.reduceLeDiff,↓reduceIte,reduceCtorEq,BC] <;> rfl,by simp [Nat.reduceAdd,Nat.reduceEqDiff,Nat.reduceLT,Nat.reduceLeDiff,↓reduceIte,reduceCtorEq,BC]⟩
          · intro j hj
            have lC:=cpC_len'' (X:=b.drop (u+16 * i)) hDl hj
            by_cases h16:j < 16
            · obtain ⟨x,hx⟩:∃ x,b[u+16 * i+j]?=some x:=⟨b[u+16 * i+j]'(by omega),by rw [List.getElem?_eq_getElem]⟩
              have gx:=get_bysI hx
              have hx':(b.drop (u+16 * i))[j]?=some x:=by rw [List.getElem?_drop];exact hx
              have d1:(j:Int) < 16:=by omega
              have d2:(0:Int)≤(j:Int):=by omega
              have d4:IntKind.i64.wrap ((j:Int)+1)=((j+1:Nat):Int):=by rw [wrap64_eq (by omega) (by omega)];omega
              have d5:IntKind.i64.wrap (((u+16 * i:Nat):Int)+(j:Int))=((u+16 * i+j:Nat):Int):=by rw [wrap64_eq (by omega) (by omega)];omega
              have d6:(0:Int)≤((u+16 * i+j:Nat):Int):=by omega
              have d7:((u+16 * i+j:Nat):Int) < (b.length:Int):=by omega
              have op:=cpC_put hx' h16
              simp (config:={ maxSteps:=1000000 }) only [d1,d2,d4,d5,d6,d7,gx,lC,op,reduceCtorEq,Nat.reduceEqDiff,Nat.reduceLeDiff,↓reduceIte,upd,BC,↓PC]
              exact ⟨by omega,by omega,j+1,⟨[(0,0),(1,0),(2,0)],by simp only [rB,rC,Nat.reduceAdd,Nat.reduceSub,Nat.reduceLT,Nat.reduceLeDiff,↓reduceIte,reduceCtorEq,BC],by simp [Nat.reduceAdd,Nat.reduceEqDiff,Nat.reduceLT,Nat.reduceLeDiff,↓reduceIte,reduceCtorEq,BC]⟩,by omega,by omega⟩
            · obtain rfl:j=16:=by omega
              have tC:List.take 16 (cpC (b.drop (u+16 * i)) 16)=bys D:=by rw [List.take_of_length_le (by omega),cpC_all,hDe]
              simp (config:={ maxSteps:=1000000 }) only [v4,w1,tC,lC,lD,ttD,tX,lX,ap,reduceCtorEq,Nat.reduceEqDiff,Nat.reduceAdd,Nat.reduceMul,Int.reduceLT,↓reduceIte,splice,BC,↓PC]
              refine ⟨by omega,by omega,by omega,i+1,?_,by omega,by omega⟩
              rw [nlS_p (Nat.succ_pos i),nlM_p (Nat.succ_pos i),nlN_p (Nat.succ_pos i)]
              exact ⟨[(0,0),(4,0)],by simp [rB,Nat.reduceAdd,Nat.reduceLeDiff,↓reduceIte,reduceCtorEq,BC],by simp [Nat.reduceAdd,Nat.reduceEqDiff,Nat.reduceLeDiff,↓reduceIte,reduceCtorEq,BC]⟩
      · obtain rfl:i=n:=by omega
        have c3:decide ((i:Int) < (i:Int))=false:=by simp
        rcases Nat.eq_zero_or_pos i with h0 | h0
        · simp only [nlS_z h0,nlM_z h0,nlN_z h0]
          simp (config:={ maxSteps:=1000000 }) only [c3,reduceCtorEq,Nat.reduceEqDiff,↓reduceIte,BC,↓PC]
          exact ⟨[(0,0)],by simp [List.length_cons,List.length_nil,Nat.zero_add],by simp [compat,apartM,keysBelow,idHs,BB]⟩
        · simp only [nlS_p h0,nlM_p h0,nlN_p h0]
          simp (config:={ maxSteps:=1000000 }) only [c3,reduceCtorEq,Nat.reduceEqDiff,Nat.reduceAdd,↓reduceIte,BC,↓PC]
          exact ⟨[(0,0),(1,0)],by simp [Nat.reduceAdd,Nat.reduceLeDiff,↓reduceIte,BC],by simp [Nat.reduceAdd,Nat.reduceLeDiff,BB]⟩
  · have hN:dgsN b=0:=by unfold dgsN;rw [if_pos he]
    have hU:dgsU b=0:=by unfold dgsU;rw [if_pos he]
    have hX:dgsX b=[]:=by unfold dgsX;rw [if_pos he]
    have he2:(cntE b 16 != 0)=true:=by simpa using he
    unfold dgsR
    rw [hN,hU,hX]
    have hc:cntR b 16=(0,0,cntE b 16):=by unfold cntR;rw [if_pos he]
    rw [hc] at g1
    simp (config:={ maxSteps:=1000000 }) only [tabR,↓g1,fl,tb,tup3,he2,reduceCtorEq,Nat.reduceEqDiff,Nat.reduceSub,Nat.reduceLT,↓reduceIte,BC,↓PC]
    exact ⟨[(0,0)],by simp [List.length_cons,List.length_nil,Nat.zero_add],by simp [compat,apartM,keysBelow,idHs,BB]⟩
def gDgs:GS
  | [.slc 0 0 1 len none],[(0,⟨.view,cells⟩)]=>match unB cells with
    | some b=>if len=b.length∧b.length≤2 ^ 36 then some (dgsR b,nlM 1 23 (bys (dgsX b)) [] (dgsN b),nlN 1 (dgsN b)) else none
    | none=>none
  | _,_=>none
theorem gDgs_eq {b:List UInt8} (h:b.length≤2 ^ 36):gDgs [.slc 0 0 1 b.length none] [(0,⟨.view,bys b⟩)]=some (dgsR b,nlM 1 23 (bys (dgsX b)) [] (dgsN b),nlN 1 (dgsN b)):=by
  unfold gDgs
  simp only [unB_bytes]
  rw [if_pos ⟨trivial,h⟩]
theorem gDgs_of {f:FuncId} (H:∀ b:List UInt8,b.length≤2 ^ 36→Fun Tryz.prog tS f [.slc 0 0 1 b.length none] [(0,⟨.view,bys b⟩)] 1 (dgsR b) (nlM 1 23 (bys (dgsX b)) [] (dgsN b)) (nlN 1 (dgsN b))):FunS Tryz.prog tS f gDgs:=by
  intro a0 m0 r m1 n1 h
  unfold gDgs at h
  split at h
  · split at h
    · rename_i b hb
      split at h
      · rename_i hc
        cases h
        obtain ⟨rfl,h2⟩:=hc
        rw [unB_some hb]
        refine ⟨H b h2,?_⟩
        rcases Nat.eq_zero_or_pos (dgsN b) with h0 | h0
        · rw [nlM_z h0];simp [freshB]
        · rw [nlM_p h0];simp [freshB]
      · cases h
    · cases h
  · cases h
theorem gDgs61:FunS Tryz.prog tS 57 gDgs:=gDgs_of f61
theorem gDgs65:FunS Tryz.prog tS 63 gDgs:=gDgs_of f65
end Go.Proofs.YtkfbkooobfepeaaGreatDoor

/- The check of a signature of a tree: contracts of Verify and of the digest. -/
namespace Go.Proofs.YtkfbkooobfepeaaGreatDoor
open Go Go.Sx Sf
set_option maxRecDepth 100000
set_option linter.unusedSimpArgs false
set_option linter.unusedVariables false
def gVer:GS
  | [.agg pc,.int .i64 N,.int .i64 i,.agg dc,.slc 0 0 16 h none],[(0,⟨.view,xc⟩)]=>match unB pc,unB dc,unB xc with
    | some p,some d,some X=>if p.length=16∧d.length=16∧X.length=16 * h∧h≤6∧0 < h∧N=P2 h∧0≤i∧i.toNat < 2 ^ h then
        some (.bool (shS (inK i.toNat d X h) == p),[],1) else none
    | _,_,_=>none
  | [.agg pc,.int .i64 N,.int .i64 i,.agg dc,.val (.slice none 0 0)],[]=>match unB pc,unB dc with
    | some p,some d=>if p.length=16∧d.length=16∧N=P2 0∧i=0 then some (.bool (shS (ofM 1 [d]) == p),[],0) else none
    | _,_=>none
  | _,_=>none
theorem gVer_eq {h i:Nat} {p d X:List UInt8} (hp:p.length=16) (hh:h≤6) (h0:0 < h) (hi:i < 2 ^ h) (hd:d.length=16) (hX:X.length=16 * h) :
    gVer [.agg (bys p),.int .i64 (P2 h),.int .i64 (i:Int),.agg (bys d),.slc 0 0 16 h none] [(0,⟨.view,bys X⟩)]=some (.bool (shS (inK i d X h) == p),[],1):=by
  unfold gVer
  simp only [unB_bytes,Int.toNat_natCast]
  rw [if_pos ⟨hp,hd,hX,hh,h0,trivial,by omega,hi⟩]
theorem gVer_z {p d:List UInt8} (hp:p.length=16) (hd:d.length=16) :
    gVer [.agg (bys p),.int .i64 (P2 0),.int .i64 0,.agg (bys d),.val (.slice none 0 0)] []=some (.bool (shS (ofM 1 [d]) == p),[],0):=by
  unfold gVer
  simp only [unB_bytes]
  rw [if_pos ⟨hp,hd,trivial,trivial⟩]
theorem gVer_of {f:FuncId}
    (H:∀ (h i:Nat) (p d X:List UInt8),p.length=16→h≤6→0 < h→i < 2 ^ h→d.length=16→X.length=16 * h →
      Fun Tryz.prog tH2 f [.agg (bys p),.int .i64 (P2 h),.int .i64 (i:Int),.agg (bys d),.slc 0 0 16 h none] [(0,⟨.view,bys X⟩)] 1 (.bool (shS (inK i d X h) == p)) [] 1)
    (Hz:∀ (p d:List UInt8),p.length=16→d.length=16 →
      Fun Tryz.prog tH2 f [.agg (bys p),.int .i64 (P2 0),.int .i64 0,.agg (bys d),.val (.slice none 0 0)] [] 0 (.bool (shS (ofM 1 [d]) == p)) [] 0):FunS Tryz.prog tH2 f gVer:=by
  intro a0 m0 r m1 n1 h
  unfold gVer at h
  split at h
  · split at h
    · rename_i p d X hp hd hX
      split at h
      · rename_i hc
        cases h
        obtain ⟨c1,c2,c3,c4,c5,rfl,c7,c8⟩:=hc
        obtain ⟨k,rfl⟩:=Int.eq_ofNat_of_zero_le c7
        rw [unB_some hp,unB_some hd,unB_some hX]
        rw [Int.toNat_natCast] at c8 ⊢
        exact ⟨H _ k p d X c1 c4 c5 c8 c2 c3,by simp [freshB]⟩
      · cases h
    · cases h
  · split at h
    · rename_i p d hp hd
      split at h
      · rename_i hc
        cases h
        obtain ⟨c1,c2,rfl,rfl⟩:=hc
        rw [unB_some hp,unB_some hd]
        exact ⟨Hz p d c1 c2,by simp [freshB]⟩
      · cases h
    · cases h
  · cases h
theorem gVer64:FunS Tryz.prog tH2 60 gVer:=gVer_of f64 f64z
theorem gVer68:FunS Tryz.prog tH2 65 gVer:=gVer_of f68 f68z
def gDig6:List SV→Option SV
  | [.agg cells,.int .i64 i,.str msg]=>match unB cells with
    | some p=>if p.length=16∧msg.length≤2 ^ 30∧-9223372036854775808≤i∧i≤9223372036854775807 then some (.agg (bys (ofS 6 [p,encI i,msg]))) else none
    | none=>none
  | _=>none
theorem gDig6_eq {p msg:List UInt8} {i:Int} (hp:p.length=16) (hm:msg.length≤2 ^ 30) (h1:-9223372036854775808≤i) (h2:i≤9223372036854775807) :
    gDig6 [.agg (bys p),.int .i64 i,.str msg]=some (.agg (bys (ofS 6 [p,encI i,msg]))):=by
  unfold gDig6
  simp only [unB_bytes]
  rw [if_pos ⟨hp,hm,h1,h2⟩]
theorem gDig6_of {f:FuncId} (H:∀ (p msg:List UInt8) (i:Int),p.length=16→msg.length≤2 ^ 30→R64 i→Fun Tryz.prog tH2 f [.agg (bys p),.int .i64 i,.str msg] [] 0 (.agg (bys (ofS 6 [p,encI i,msg]))) [] 0) :
    ∀ args r,gDig6 args=some r→Fun Tryz.prog tH2 f args [] 0 r [] 0∧(∀ η,SV.renL η args=args)∧∀ η,r.ren η=r:=by
  intro args r hr
  unfold gDig6 at hr
  split at hr
  · split at hr
    · rename_i p hp
      split at hr
      · rename_i hc
        cases hr
        rw [unB_some hp]
        exact ⟨H p _ _ hc.1 hc.2.1 hc.2.2,fun η=>by simp only [SV.renL,SV.ren,ren_bytes],fun η=>by simp only [SV.renL,SV.ren,ren_bytes]⟩
      · cases hr
    · cases hr
  · cases hr
end Go.Proofs.YtkfbkooobfepeaaGreatDoor

/- The check of a signature of a tree: the reference's. -/
namespace Go.Proofs.YtkfbkooobfepeaaGreatDoor
open Go Go.Sx Sf
set_option maxRecDepth 100000
set_option linter.unusedVariables false
structure Sg where
  i:Int
  u1:Nat
  e1:Int
  s:List UInt8
  u2:Nat
  e2:Int
  n:Nat
  u3:Nat
  e3:Int
  x:List UInt8
def sgOf (b:List UInt8):Sg:=
  let d:=decS b
  let t:=bytS (b.drop d.2.1)
  let q:=b.drop (d.2.1+t.2.1)
  ⟨d.1,d.2.1,d.2.2,t.1,t.2.1,t.2.2,dgsN q,dgsU q,cntE q 16,dgsX q⟩
def verS (p:List UInt8) (ht:Int) (msg sig:List UInt8):Int × Int:=
  if ht < 0∨6 < ht then (0,1) else if 1048576 < msg.length then (0,2) else
  let g:=sgOf sig
  if g.e1≠0 then (0,g.e1) else if g.e2≠0 then (0,g.e2) else if g.e3≠0 then (0,g.e3) else
  if g.u1+g.u2+g.u3≠sig.length∨g.i < 0∨g.i ≥ P2 ht.toNat∨(g.n:Int)≠ht then (0,6) else
  if g.s.length≠560 then (0,8) else
  if shS (inK g.i.toNat (recS (ofS 6 [p,encI g.i,msg]) g.s) g.x g.n) == p then (g.i,0) else (0,8)
def verT (p:List UInt8) (ht:Int) (msg sig:List UInt8):SV:=.tup [.int .i64 (verS p ht msg sig).1,.int .i64 (verS p ht msg sig).2]
theorem byt_ok {b s:List UInt8} {u:Nat} (h:bytS b=(s,u,0)):u≤b.length:=by
  unfold bytS at h
  split at h
  · rename_i h1
    simp only [Prod.mk.injEq] at h
    exact absurd h.2.2 h1
  · rename_i h1
    obtain ⟨n,w,hx,h2,h3,h4⟩:=cnt_ok (s:=1) (by simpa using h1)
    rw [hx] at h
    simp only [Prod.mk.injEq,Int.toNat_natCast,Nat.div_one] at h h3
    omega
theorem dgs_ok {b:List UInt8} (h:cntE b 16=0):dgsU b≤b.length∧(dgsX b).length=16 * dgsN b:=by
  obtain ⟨n,u,hx,h1,h2,h3⟩:=cnt_ok h
  have h4:16 * n≤b.length - u:=by have:=Nat.mul_le_mul_left 16 h2;have:=Nat.mul_div_le (b.length - u) 16;omega
  unfold dgsU dgsX dgsN
  rw [if_neg (by simpa using h),if_neg (by simpa using h),if_neg (by simpa using h),hx]
  simp only [Int.toNat_natCast,List.length_take,List.length_drop]
  omega
theorem gDgsz {b:List UInt8} (h:cntE b 16≠0):dgsN b=0:=by unfold dgsN;rw [if_pos h]
theorem p2_le {h:Nat} (hh:h≤6):P2 h≤64∧1≤P2 h:=by
  have:h=0∨h=1∨h=2∨h=3∨h=4∨h=5∨h=6:=by omega
  rcases this with rfl | rfl | rfl | rfl | rfl | rfl | rfl <;> decide
theorem p2_shl {h:Nat} (hh:h≤6):IntKind.i64.wrap (1 * 2 ^ (min h IntKind.i64.bits))=P2 h:=by
  have:h=0∨h=1∨h=2∨h=3∨h=4∨h=5∨h=6:=by omega
  rcases this with rfl | rfl | rfl | rfl | rfl | rfl | rfl <;> decide
theorem verS_in {p msg sig:List UInt8} {h:Nat} (hh:h≤6) (h3:msg.length≤1048576):verS p h msg sig =
    (if (sgOf sig).e1≠0 then (0,(sgOf sig).e1) else if (sgOf sig).e2≠0 then (0,(sgOf sig).e2) else if (sgOf sig).e3≠0 then (0,(sgOf sig).e3) else
      if (sgOf sig).u1+(sgOf sig).u2+(sgOf sig).u3≠sig.length∨(sgOf sig).i < 0∨(sgOf sig).i ≥ P2 h∨((sgOf sig).n:Int)≠(h:Int) then (0,6) else
      if (sgOf sig).s.length≠560 then (0,8) else
      if shS (inK (sgOf sig).i.toNat (recS (ofS 6 [p,encI (sgOf sig).i,msg]) (sgOf sig).s) (sgOf sig).x (sgOf sig).n) == p then ((sgOf sig).i,0) else (0,8)):=by
  unfold verS
  rw [if_neg (by omega),if_neg (by omega),Int.toNat_natCast]
def tabVd:List (FuncId × GS):=[(61,gGetIntR),(62,gGetBytes),(63,gDgs),(65,gVer)]
theorem tabVd_ok:∀ x ∈ tabVd,FunS Tryz.prog tH2 x.1 x.2:=by
  intro x hx
  simp only [tabVd,List.mem_cons,List.not_mem_nil,or_false] at hx
  rcases hx with rfl | rfl | rfl | rfl
  · exact gGetIntR_ok
  · exact gGetBytes_ok f49
  · exact gDgs65
  · exact gVer68
def tbVd:Tab:=⟨[(26,gDig6),(64,gRec)],[]⟩
theorem tbVd_ok:TabX Tryz.prog tH2 tbVd:=by
  refine ⟨fun x h args r hr=>?_,fun x h=>by simp [tbVd] at h⟩
  simp only [tbVd,List.mem_cons,List.not_mem_nil,or_false] at h
  rcases h with rfl | rfl
  · obtain ⟨h1,h2,h3⟩:=gDig6_of (f:=26) (fun p msg i h1 h2 h3=>f67 p msg i h1 h2 h3) args r hr
    exact ⟨h1,h2,fun η=>by simp only [SV.renL,h3]⟩
  · obtain ⟨h1,h2,h3⟩:=gRec66 args r hr
    exact ⟨h1,h2,fun η=>by simp only [SV.renL,h3]⟩
def cVd:CallT:=callS tabVd (callX tbVd)
theorem cVd_ok:∀ f a m n K,cVd f a m n K→callT Tryz.prog tH2 f a m n K:=callS_ok tabVd_ok (callX_ok tbVd_ok)
theorem take_drop_bys (b:List UInt8) (o:Nat):List.take (b.drop o).length (List.drop o (bys b))=bys (b.drop o):=by
  simp only [bys,List.map_drop,List.length_drop]
  rw [List.take_of_length_le (by simp)]
set_option maxHeartbeats 8000000 in
theorem f42 (p msg sig:List UInt8) (ht:Int) (hp:p.length=16) (hm:msg.length≤2 ^ 40) (hs:sig.length≤2 ^ 30) :
    Fun Tryz.prog tH2 31 [.agg (bys p),.int .i64 ht,.str msg,.str sig] [] 0 (verT p ht msg sig) [] 0:=by
  refine fun_pure none cVd cVd_ok chk42 (show 4≤112 by decide) (fun η=>by simp only [verT,SV.ren,SV.renL]) ?_
  unfold sf42 og oh om oq ov verT
  have lp:(bys p).length=16:=by rw [len_bytes,hp]
  have tp:=take16 hp
  have ms:msg.map SV.byte=bys msg:=rfl
  have ss:sig.map SV.byte=bys sig:=rfl
  have ls:(bys sig).length=sig.length:=len_bytes sig
  have ts:=take_bytes sig
  by_cases h1:ht < 0
  · have hv:verS p ht msg sig=(0,1):=by unfold verS;rw [if_pos (Or.inl h1)]
    simp (config:={ maxSteps:=1000000 }) only [cVd,tabVd,tbVd,h1,hv,undef,reduceCtorEq,Nat.reduceEqDiff,Nat.reduceAdd,↓reduceIte,BC,↓PC]
  by_cases h2:ht > 6
  · have hv:verS p ht msg sig=(0,1):=by unfold verS;rw [if_pos (Or.inr h2)]
    simp (config:={ maxSteps:=1000000 }) only [cVd,tabVd,tbVd,h1,h2,hv,reduceCtorEq,Nat.reduceEqDiff,Nat.reduceAdd,↓reduceIte,BC,↓PC]
  by_cases h3:(msg.length:Int) > 1048576
  · have hv:verS p ht msg sig=(0,2):=by unfold verS;rw [if_neg (by omega),if_pos (by omega)]
    simp (config:={ maxSteps:=1000000 }) only [cVd,tabVd,tbVd,h1,h2,h3,hv,reduceCtorEq,Nat.reduceEqDiff,Nat.reduceAdd,↓reduceIte,BC,↓PC]
  obtain ⟨h,rfl⟩:∃ h:Nat,ht=(h:Int):=⟨ht.toNat,by omega⟩
  have hh:h≤6:=by omega
  have hv:=verS_in (p:=p) (msg:=msg) (sig:=sig) hh (by omega)
  rcases hx:decS sig with ⟨i,u1,e1⟩
  have hb40:sig.length≤2 ^ 40:=by omega
  have g1:gGetIntR [.slc 0 0 1 sig.length none] [(0,⟨.view,bys sig⟩)]=some (tup3 (i,u1,e1),[],1):=by
    unfold gGetIntR
    simp only [unB_bytes,capB,hb40,and_self,if_true,hx]
  simp only [sgOf,hx] at hv
  rcases dec_err hx with ⟨rfl,hR,hu,_⟩ | ⟨he,rfl,rfl⟩
  · rw [if_neg (by simp)] at hv
    have w1:(0:Int)≤(u1:Int):=by omega
    have w2:(u1:Int)≤(sig.length:Int):=by omega
    have lb1:sig.length - u1=(sig.drop u1).length:=by simp
    have tb1:=take_drop_bys sig u1
    have k1:u1+(sig.drop u1).length≤sig.length:=by simp;omega
    rcases hy:bytS (sig.drop u1) with ⟨s,u2,e2⟩
    have hb1:(sig.drop u1).length≤2 ^ 40:=by simp;omega
    have g2:gGetBytes [.slc 0 0 1 (sig.drop u1).length none] [(0,⟨.view,bys (sig.drop u1)⟩)]=some (tupB (s,u2,e2),[],1):=by
      unfold gGetBytes
      simp only [unB_bytes]
      rw [if_pos ⟨trivial,hb1⟩,hy]
    simp only [hy] at hv
    by_cases he2:e2=0
    · subst he2
      rw [if_neg (by simp)] at hv
      have hu2:=byt_ok hy
      have w3:IntKind.i64.wrap ((u1:Int)+(u2:Int))=((u1+u2:Nat):Int):=by rw [wrap64_eq (by simp at hu2;omega) (by simp at hu2;omega)];omega
      have w4:(0:Int)≤((u1+u2:Nat):Int):=by omega
      have w5:((u1+u2:Nat):Int)≤(sig.length:Int):=by simp at hu2;omega
      have lb2:sig.length - (u1+u2)=(sig.drop (u1+u2)).length:=by simp
      have tb2:=take_drop_bys sig (u1+u2)
      have k2:u1+u2+(sig.drop (u1+u2)).length≤sig.length:=by simp;simp at hu2;omega
      have g3:=gDgs_eq (b:=sig.drop (u1+u2)) (by simp;omega)
      generalize hB2:sig.drop (u1+u2)=b2 at *
      generalize hB1:sig.drop u1=b1 at *
      by_cases he3:cntE b2 16=0
      · rw [if_neg (by simpa using he3)] at hv
        obtain ⟨hu3,hxl⟩:=dgs_ok he3
        have w6:IntKind.i64.wrap (((u1+u2:Nat):Int)+(dgsU b2:Int))=((u1+u2+dgsU b2:Nat):Int):=by rw [wrap64_eq (by omega) (by omega)];omega
        simp only [dgsR,he3] at g3
        generalize dgsX b2=X at *
        generalize dgsU b2=u3 at *
        generalize dgsN b2=n at *
        have h0h:(0:Int)≤(h:Int):=by omega
        have hc:(u1+u2+u3≠sig.length∨i < 0∨i ≥ P2 h∨(n:Int)≠(h:Int))∨(u1+u2+u3=sig.length∧0≤i∧i < P2 h∧n=h):=by omega
        have hsh:=p2_shl hh
        have e64:=p2_le hh
        rcases hc with hc | ⟨c1,c2,c3,rfl⟩
        · rw [if_pos hc] at hv
          rcases Nat.eq_zero_or_pos n with hn | hn
          · simp only [nlS_z hn,nlM_z hn,nlN_z hn] at g3
            by_cases c1:u1+u2+u3=sig.length
            · by_cases c2:i < 0
              · have q1:(((u1+u2+u3:Nat):Int) != (sig.length:Int))=false:=by simp;omega
                simp (config:={ maxSteps:=1000000 }) only [cVd,tabVd,tbVd,h1,h2,h3,ss,↓g1,↓g2,↓g3,ls,ts,tup3,tupB,w1,w2,w3,w4,w5,w6,lb1,tb1,k1,lb2,tb2,k2,hv,Option.map_none,Int.le_refl,q1,c2,undef,Int.reduceBNe,reduceCtorEq,Nat.reduceEqDiff,Nat.reduceAdd,Nat.reduceSub,Nat.reduceLT,↓reduceIte,BC,↓PC]
              · by_cases c3:i ≥ P2 h
                · have q1:(((u1+u2+u3:Nat):Int) != (sig.length:Int))=false:=by simp;omega
                  simp (config:={ maxSteps:=1000000 }) only [cVd,tabVd,tbVd,h1,h2,h3,ss,↓g1,↓g2,↓g3,ls,ts,tup3,tupB,w1,w2,w3,w4,w5,w6,lb1,tb1,k1,lb2,tb2,k2,hv,h0h,Option.map_none,Int.le_refl,q1,c2,c3,hsh,undef,Int.reduceBNe,reduceCtorEq,Nat.reduceEqDiff,Nat.reduceAdd,Nat.reduceSub,Nat.reduceLT,↓reduceIte,BC,↓PC]
                · have q1:(((u1+u2+u3:Nat):Int) != (sig.length:Int))=false:=by simp;omega
                  have q2:((0:Int) != (h:Int))=true:=by simp;omega
                  simp (config:={ maxSteps:=1000000 }) only [cVd,tabVd,tbVd,h1,h2,h3,ss,↓g1,↓g2,↓g3,ls,ts,tup3,tupB,w1,w2,w3,w4,w5,w6,lb1,tb1,k1,lb2,tb2,k2,hv,h0h,Option.map_none,Int.le_refl,q1,q2,c2,c3,hsh,Int.reduceBNe,reduceCtorEq,Nat.reduceEqDiff,Nat.reduceAdd,Nat.reduceSub,Nat.reduceLT,↓reduceIte,BC,↓PC]
            · have q1:(((u1+u2+u3:Nat):Int) != (sig.length:Int))=true:=by simp;omega
              simp (config:={ maxSteps:=1000000 }) only [cVd,tabVd,tbVd,h1,h2,h3,ss,↓g1,↓g2,↓g3,ls,ts,tup3,tupB,w1,w2,w3,w4,w5,w6,lb1,tb1,k1,lb2,tb2,k2,hv,Option.map_none,Int.le_refl,q1,undef,Int.reduceBNe,reduceCtorEq,Nat.reduceEqDiff,Nat.reduceAdd,Nat.reduceSub,Nat.reduceLT,↓reduceIte,BC,↓PC]
          · simp only [nlS_p hn,nlM_p hn,nlN_p hn] at g3
            by_cases c1:u1+u2+u3=sig.length
            · by_cases c2:i < 0
              · have q1:(((u1+u2+u3:Nat):Int) != (sig.length:Int))=false:=by simp;omega
                simp (config:={ maxSteps:=1000000 }) only [cVd,tabVd,tbVd,h1,h2,h3,ss,↓g1,↓g2,↓g3,ls,ts,tup3,tupB,w1,w2,w3,w4,w5,w6,lb1,tb1,k1,lb2,tb2,k2,hv,Option.map_none,Int.le_refl,q1,c2,undef,Int.reduceBNe,reduceCtorEq,Nat.reduceEqDiff,Nat.reduceAdd,Nat.reduceSub,Nat.reduceLT,↓reduceIte,BC,↓PC]
              · by_cases c3:i ≥ P2 h
                · have q1:(((u1+u2+u3:Nat):Int) != (sig.length:Int))=false:=by simp;omega
                  simp (config:={ maxSteps:=1000000 }) only [cVd,tabVd,tbVd,h1,h2,h3,ss,↓g1,↓g2,↓g3,ls,ts,tup3,tupB,w1,w2,w3,w4,w5,w6,lb1,tb1,k1,lb2,tb2,k2,hv,h0h,Option.map_none,Int.le_refl,q1,c2,c3,hsh,undef,Int.reduceBNe,reduceCtorEq,Nat.reduceEqDiff,Nat.reduceAdd,Nat.reduceSub,Nat.reduceLT,↓reduceIte,BC,↓PC]
                · have q1:(((u1+u2+u3:Nat):Int) != (sig.length:Int))=false:=by simp;omega
                  have q2:((n:Int) != (h:Int))=true:=by simp;omega
                  simp (config:={ maxSteps:=1000000 }) only [cVd,tabVd,tbVd,h1,h2,h3,ss,↓g1,↓g2,↓g3,ls,ts,tup3,tupB,w1,w2,w3,w4,w5,w6,lb1,tb1,k1,lb2,tb2,k2,hv,h0h,Option.map_none,Int.le_refl,q1,q2,c2,c3,hsh,Int.reduceBNe,reduceCtorEq,Nat.reduceEqDiff,Nat.reduceAdd,Nat.reduceSub,Nat.reduceLT,↓reduceIte,BC,↓PC]
            · have q1:(((u1+u2+u3:Nat):Int) != (sig.length:Int))=true:=by simp;omega
              simp (config:={ maxSteps:=1000000 }) only [cVd,tabVd,tbVd,h1,h2,h3,ss,↓g1,↓g2,↓g3,ls,ts,tup3,tupB,w1,w2,w3,w4,w5,w6,lb1,tb1,k1,lb2,tb2,k2,hv,Option.map_none,Int.le_refl,q1,undef,Int.reduceBNe,reduceCtorEq,Nat.reduceEqDiff,Nat.reduceAdd,Nat.reduceSub,Nat.reduceLT,↓reduceIte,BC,↓PC]
        · rw [if_neg (by omega)] at hv
          obtain ⟨k,rfl⟩:∃ k:Nat,i=(k:Int):=⟨i.toNat,by omega⟩
          have q1:(((u1+u2+u3:Nat):Int) != (sig.length:Int))=false:=by simp;omega
          have c3':¬ (k:Int) ≥ P2 n:=by omega
          have c2':¬ (k:Int) < 0:=by omega
          have kn:k < 2 ^ n:=by have c9:((k:Nat):Int) < ((2 ^ n:Nat):Int):=c3;exact_mod_cast c9
          have gd:=gDig6_eq (p:=p) (msg:=msg) (i:=(k:Int)) hp (by omega) hR.1 hR.2
          have hD:=ofS_len 6 [p,encI (k:Int),msg]
          rw [Int.toNat_natCast] at hv
          generalize ofS 6 [p,encI (k:Int),msg]=D at *
          have lD:(bys D).length=16:=by rw [len_bytes,hD]
          have tD:=take16 hD
          by_cases h560:s.length=560
          · rw [if_neg (by omega)] at hv
            have gr:=gRec_yes hD h560
            have hL:(recS D s).length=16:=ofS_len _ _
            generalize recS D s=L at *
            have lL:(bys L).length=16:=by rw [len_bytes,hL]
            have tL:=take16 hL
            rcases Nat.eq_zero_or_pos n with hn | hn
            · subst hn
              obtain rfl:k=0:=by simpa using kn
              have gv:=gVer_z (d:=L) hp hL
              simp only [nlS_z,nlM_z,nlN_z] at g3
              have hi0:inK 0 L X 0=ofM 1 [L]:=rfl
              rw [hi0] at hv
              have hsh0:IntKind.i64.wrap (1 * 2 ^ (min 0 IntKind.i64.bits))=P2 0:=by decide
              have c30:¬ (0:Int) ≥ P2 0:=by decide
              have n0:((0:Nat):Int)=0:=rfl
              rw [n0] at hv gd
              generalize hB:(shS (ofM 1 [L]) == p)=B at *
              cases B
              · simp only [Bool.false_eq_true,if_false] at hv
                simp (config:={ maxSteps:=1000000 }) only [cVd,tabVd,tbVd,h3,ss,↓g1,↓g2,↓g3,ls,ts,tup3,tupB,w1,w2,w3,w4,w5,w6,lb1,tb1,k1,lb2,tb2,k2,hv,Option.map_none,Int.le_refl,q1,hsh0,c30,lp,tp,↓gd,↓gr,↓gv,lL,tL,n0,Int.reduceGT,Int.reduceBNe,reduceCtorEq,Nat.reduceEqDiff,Nat.reduceAdd,Nat.reduceSub,Nat.reduceLT,Int.reduceToNat,Int.reduceLT,↓reduceIte,upd,splice,BC,↓PC]
              · simp only [if_true] at hv
                simp (config:={ maxSteps:=1000000 }) only [cVd,tabVd,tbVd,h3,ss,↓g1,↓g2,↓g3,ls,ts,tup3,tupB,w1,w2,w3,w4,w5,w6,lb1,tb1,k1,lb2,tb2,k2,hv,Option.map_none,Int.le_refl,q1,hsh0,c30,lp,tp,↓gd,↓gr,↓gv,lL,tL,n0,Int.reduceGT,Int.reduceBNe,reduceCtorEq,Nat.reduceEqDiff,Nat.reduceAdd,Nat.reduceSub,Nat.reduceLT,Int.reduceToNat,Int.reduceLT,↓reduceIte,upd,splice,BC,↓PC]
            · have gv:=gVer_eq (d:=L) hp hh hn kn hL hxl
              simp only [nlS_p hn,nlM_p hn,nlN_p hn] at g3
              have q2:((n:Int) != (n:Int))=false:=by simp
              have lX:(bys X).length=16 * n:=by rw [len_bytes,hxl]
              have tX:List.take (16 * n) (bys X)=bys X:=List.take_of_length_le (by omega)
              have tX2:List.take (n * 16) (bys X)=bys X:=List.take_of_length_le (by omega)
              have b16:n * 16≤16 * n:=by omega
              generalize hB:(shS (inK k L X n) == p)=B at *
              cases B
              · simp only [Bool.false_eq_true,if_false] at hv
                simp (config:={ maxSteps:=1000000 }) only [cVd,tabVd,tbVd,h1,h2,h3,ss,↓g1,↓g2,↓g3,ls,ts,tup3,tupB,w1,w2,w3,w4,w5,w6,lb1,tb1,k1,lb2,tb2,k2,hv,h0h,Option.map_none,Int.le_refl,q1,q2,hsh,c2',c3',lp,tp,↓gd,↓gr,↓gv,lL,tL,lX,tX2,b16,Int.reduceBNe,reduceCtorEq,Nat.reduceEqDiff,Nat.reduceAdd,Nat.reduceSub,Nat.reduceLT,↓reduceIte,upd,splice,BC,↓PC]
              · simp only [if_true] at hv
                simp (config:={ maxSteps:=1000000 }) only [cVd,tabVd,tbVd,h1,h2,h3,ss,↓g1,↓g2,↓g3,ls,ts,tup3,tupB,w1,w2,w3,w4,w5,w6,lb1,tb1,k1,lb2,tb2,k2,hv,h0h,Option.map_none,Int.le_refl,q1,q2,hsh,c2',c3',lp,tp,↓gd,↓gr,↓gv,lL,tL,lX,tX2,b16,Int.reduceBNe,reduceCtorEq,Nat.reduceEqDiff,Nat.reduceAdd,Nat.reduceSub,Nat.reduceLT,↓reduceIte,upd,splice,BC,↓PC]
          · rw [if_pos h560] at hv
            have gr:=gRec_no hD h560
            have z16l:zero16.length=16:=by decide
            rcases Nat.eq_zero_or_pos n with hn | hn
            · simp only [nlS_z hn,nlM_z hn,nlN_z hn] at g3
              have q2:((0:Int) != (n:Int))=false:=by simp;omega
              simp (config:={ maxSteps:=1000000 }) only [cVd,tabVd,tbVd,h1,h2,h3,ss,↓g1,↓g2,↓g3,ls,ts,tup3,tupB,w1,w2,w3,w4,w5,w6,lb1,tb1,k1,lb2,tb2,k2,hv,h0h,Option.map_none,Int.le_refl,q1,q2,hsh,c2',c3',lp,tp,↓gd,↓gr,z16l,Int.reduceBNe,reduceCtorEq,Nat.reduceEqDiff,Nat.reduceAdd,Nat.reduceSub,Nat.reduceLT,↓reduceIte,upd,splice,BC,↓PC]
            · simp only [nlS_p hn,nlM_p hn,nlN_p hn] at g3
              have q2:((n:Int) != (n:Int))=false:=by simp
              simp (config:={ maxSteps:=1000000 }) only [cVd,tabVd,tbVd,h1,h2,h3,ss,↓g1,↓g2,↓g3,ls,ts,tup3,tupB,w1,w2,w3,w4,w5,w6,lb1,tb1,k1,lb2,tb2,k2,hv,h0h,Option.map_none,Int.le_refl,q1,q2,hsh,c2',c3',lp,tp,↓gd,↓gr,z16l,Int.reduceBNe,reduceCtorEq,Nat.reduceEqDiff,Nat.reduceAdd,Nat.reduceSub,Nat.reduceLT,↓reduceIte,upd,splice,BC,↓PC]
      · rw [if_pos he3] at hv
        have he':(cntE b2 16 != 0)=true:=by simpa using he3
        have z3:=gDgsz he3
        simp only [dgsR,nlS_z z3,nlM_z z3,nlN_z z3] at g3
        simp (config:={ maxSteps:=1000000 }) only [cVd,tabVd,tbVd,h1,h2,h3,ss,↓g1,↓g2,↓g3,ls,ts,tup3,tupB,w1,w2,w3,w4,w5,lb1,tb1,k1,lb2,tb2,k2,he',hv,Option.map_none,Int.le_refl,Int.reduceBNe,reduceCtorEq,Nat.reduceEqDiff,Nat.reduceAdd,Nat.reduceSub,Nat.reduceLT,↓reduceIte,BC,↓PC]
    · rw [if_pos he2] at hv
      have he':(e2 != 0)=true:=by simpa using he2
      generalize hB1:sig.drop u1=b1 at *
      simp (config:={ maxSteps:=1000000 }) only [cVd,tabVd,tbVd,h1,h2,h3,ss,↓g1,↓g2,ls,ts,tup3,tupB,w1,w2,lb1,tb1,k1,he',hv,Option.map_none,Int.le_refl,Int.reduceBNe,reduceCtorEq,Nat.reduceEqDiff,Nat.reduceAdd,Nat.reduceSub,Nat.reduceLT,↓reduceIte,BC,↓PC]
  · rw [if_pos he] at hv
    have he':(e1 != 0)=true:=by simpa using he
    simp (config:={ maxSteps:=1000000 }) only [cVd,tabVd,tbVd,h1,h2,h3,ss,↓g1,ls,ts,tup3,he',hv,reduceCtorEq,Nat.reduceEqDiff,Nat.reduceAdd,Nat.reduceSub,Nat.reduceLT,↓reduceIte,BC,↓PC]
end Go.Proofs.YtkfbkooobfepeaaGreatDoor

/- The reference's trees of signatures: the leaves. -/
namespace Go.Proofs.YtkfbkooobfepeaaGreatDoor
open Go Go.Sx Sf
set_option maxRecDepth 100000
set_option linter.unusedVariables false
def gSeed:List SV→Option SV
  | [.str seed,.int .i64 i]=>if seed.length≤64∧-9223372036854775808≤i∧i≤9223372036854775807 then some (.str (leafS seed i)) else none
  | _=>none
theorem gSeed_eq {seed:List UInt8} {k:Nat} (h:seed.length≤64) (hk:k≤64):gSeed [.str seed,.int .i64 (k:Int)]=some (.str (leafS seed (k:Int))):=if_pos ⟨h,by omega,by omega⟩
def gPubW:List SV→Option SV
  | [.str seed]=>if seed.length≤64 then some (.agg (bys (pubS seed))) else none
  | _=>none
theorem gPubW_eq {seed:List UInt8} (h:seed.length≤64):gPubW [.str seed]=some (.agg (bys (pubS seed))):=if_pos h
def tbLv:Tab:=⟨[(25,gSeed),(36,gPubW)],[]⟩
theorem tbLv_ok:TabX Tryz.prog tH2 tbLv:=by
  refine ⟨fun x h args r hr=>?_,fun x h=>by simp [tbLv] at h⟩
  simp only [tbLv,List.mem_cons,List.not_mem_nil,or_false] at h
  rcases h with rfl | rfl
  · simp only at hr
    unfold gSeed at hr
    split at hr
    · split at hr
      · rename_i hc
        cases hr
        exact ⟨f225 _ _ hc.1 hc.2,fun η=>rfl,fun η=>rfl⟩
      · cases hr
    · cases hr
  · simp only at hr
    unfold gPubW at hr
    split at hr
    · split at hr
      · rename_i hc
        cases hr
        exact ⟨f236 _ hc,fun η=>rfl,fun η=>by simp only [SV.renL,SV.ren,ren_bytes]⟩
      · cases hr
    · cases hr
def lfF (seed:List UInt8) (k:Nat):List UInt8:=pubS (leafS seed (k:Int))
theorem lfF_len (seed:List UInt8) (k:Nat):(lfF seed k).length=16:=pubS_len _
def lvsS (seed:List UInt8) (h:Nat):List UInt8:=catS (lfF seed) (2 ^ h)
theorem lvsS_len (seed:List UInt8) (h:Nat):(lvsS seed h).length=16 * 2 ^ h:=catS_len (fun k _=>lfF_len seed k)
set_option maxHeartbeats 4000000 in
theorem f211p (seed:List UInt8) (h:Nat) (hh:h≤6) (S L:Nat→List UInt8) (gS:∀ k:Nat,k≤64→gSeed [.str seed,.int .i64 (k:Int)]=some (.str (S k)))
    (gP:∀ k:Nat,gPubW [.str (S k)]=some (.agg (bys (L k)))) (hL:∀ k,(L k).length=16) :
    Fun Tryz.prog tH2 11 [.str seed,.int .i64 (h:Int)] [] 0 (.slc 0 0 16 (2 ^ h) none) [(0,⟨.own 23,bys (catS L (2 ^ h))⟩)] 1:=by
  refine fun_any none (callX tbLv) (callX_ok tbLv_ok) chk211 (show 2≤21 by decide) (by decide) ?_
  unfold sf211 om oq
  simp (config:={ maxSteps:=1000000 }) only [tbLv,reduceCtorEq,Nat.reduceEqDiff,eq_self,Nat.zero_add,frOf,den_o0,den_o1,kont_app,den_reg,den_seq,den_block,↓reduceIte,↓e_mv,Opd.ev,put,putO,del,dels]
  rw [den_loop]
  have hsh:=p2_shl hh
  have p1:=(p2_le hh).1
  have p0:=(p2_le hh).2
  have hP:P2 h=((2 ^ h:Nat):Int):=rfl
  rw [hP] at hsh p1 p0
  generalize 2 ^ h=N at *
  have h0:(0:Int)≤(h:Int):=by omega
  refine den_inv (callX_ok tbLv_ok) (σ:=Nat) (fun k=>[(6,.int .i64 (k:Int)),(5,nlS 0 16 k),(1,.int .i64 (h:Int)),(0,.str seed)])
    (fun k=>nlM 0 23 (bys (catS L k)) [] k) (fun k=>nlN 0 k) (fun k=>k≤N) (fun k=>N - k) 0 ?_ (Nat.zero_le _) ?_
  · exact ⟨[],by simp [EntM,compat,apartM,keysBelow,idHs,List.length_nil,List.take_nil,and_self,nlM_0,nlN_0],by simp [frEnt,geto,SV.ren,Nat.reduceEqDiff,↓reduceIte,and_self,reduceCtorEq,Nat.succ_ne_self,nlS_0]⟩
  · intro k hk
    have hlk:=catS_len (f:=L) (n:=k) (fun j _=>hL j)
    by_cases hkN:k < N
    · have c1:(k:Int) < (N:Int):=by omega
      have v4:IntKind.i64.wrap ((k:Int)+1)=((k+1:Nat):Int):=by rw [wrap64_eq (by omega) (by omega)];omega
      have gs:=gS k (by omega)
      have gp:=gP k
      have hpl:=hL k
      have lQ:(bys (L k)).length=16:=by rw [len_bytes,hpl]
      have tQ:=take16 hpl
      have hst:bys (catS L k)++bys (L k)=bys (catS L (k+1)):=by rw [bytes_app,catS_step]
      have fe:=flat_bytes (L k)
      cases k with
      | zero=>
        have c1:(0:Int) < (N:Int):=c1
        have gs:gSeed [.str seed,.int .i64 0]=some (.str (S 0)):=gs
        have hst:bys (L 0)=bys (catS L (0+1)):=hst
        simp (config:={ maxSteps:=1000000 }) only [↓gs,↓gp,hsh,h0,c1,fe,lQ,tQ,SV.flatL,SV.flat,Bool.and_self,↓u_callX,lookF,again_n,reduceCtorEq,Nat.reduceEqDiff,Nat.reduceAdd,Nat.reduceMul,Int.reduceLE,Int.reduceAdd,Int.reduceNeg,wrap64,eq_self,decide_true,Int.cast_ofNat_Int, true_and,List.length_cons,List.length_nil,List.append_nil,List.nil_append,List.take_zero,List.drop_succ_cons,List.drop_zero,List.drop_nil,List.map_cons,List.map_nil,Nat.zero_add,den_nil,den_o0,↓gd_tt,den_o1,kont_app,den_skip,den_reg,den_seq,den_cond,den_block,den_b,↓reduceIte,↓e_bslice,↓e_app,↓e_mv,↓e_bin,↓e_callp,↓u_binV,↓u_srcOf,↓u_srcSl,↓binI,↓fillE,Opd.ev,Sx.get,put,putO,del,dels,rd,splice,SV.cells?,Nat.sub_zero,Nat.le_refl,nlS_0,nlM_0,nlN_0,Int.toNat_natCast,Int.cast_ofNat_Int]
        rw [hst]
        exact ⟨by omega,by omega,0+1,⟨[(1,0)],by simp only [EntM,compat,apartM,keysBelow,eta,idHs,rd,Option.getD_some,List.getElem?_cons_zero,List.length_cons,List.length_nil,Nat.zero_add,Nat.add_zero,Nat.reduceSub,Nat.reduceLT,Nat.reduceLeDiff,↓reduceIte,Kind.isOwn,List.take_zero,and_self,true_and,exists_eq_left',Option.some.injEq,ne_eq,implies_true,List.not_mem_nil,false_imp_iff,Bool.true_or,forall_const,ren_bytes,nlM_1,nlN_1],by simp only [frEnt,geto,eta,SV.ren,Option.getD_some,List.getElem?_cons_zero,List.length_cons,List.length_nil,Nat.zero_add,Nat.add_zero,Nat.reduceSub,Nat.reduceEqDiff,↓reduceIte,and_self,and_true,Option.some.injEq,reduceCtorEq,Nat.succ_ne_self,nlS_1];trivial⟩,by omega,by omega⟩
      | succ k=>
        simp (config:={ maxSteps:=1000000 }) only [↓gs,↓gp,hsh,h0,c1,v4,fe,lQ,tQ,SV.flatL,SV.flat,Bool.and_self,↓u_callX,lookF,again_n,reduceCtorEq,Nat.reduceEqDiff,Nat.reduceAdd,Nat.reduceMul,eq_self,decide_true, true_and,List.length_cons,List.length_nil,List.append_nil,List.nil_append,List.take_zero,List.drop_succ_cons,List.drop_zero,List.drop_nil,List.map_cons,List.map_nil,Nat.zero_add,den_nil,den_o0,↓gd_tt,den_o1,kont_app,den_skip,den_reg,den_seq,den_cond,den_block,den_b,↓reduceIte,↓e_bslice,↓e_app,↓e_mv,↓e_bin,↓e_callp,↓u_binV,↓u_srcOf,↓u_srcSl,↓binI,↓fillE,Opd.ev,Sx.get,put,putO,del,dels,rd,rm,splice,SV.cells?,Nat.le_refl,nlS_1,nlM_1,nlN_1,len_bytes,Int.toNat_natCast]
        have e0:List.take ((k+1) * 16) (bys (catS L (k+1)))=bys (catS L (k+1)):=List.take_of_length_le (by rw [len_bytes,hlk];omega)
        rw [e0,hst]
        exact ⟨by omega,by omega,by omega,k+1+1,⟨[(2,0)],by simp only [EntM,compat,apartM,keysBelow,eta,idHs,rd,Option.getD_some,List.getElem?_cons_zero,List.length_cons,List.length_nil,Nat.zero_add,Nat.add_zero,Nat.reduceSub,Nat.reduceLT,Nat.reduceLeDiff,↓reduceIte,Kind.isOwn,List.take_zero,and_self,true_and,exists_eq_left',Option.some.injEq,ne_eq,implies_true,List.not_mem_nil,false_imp_iff,Bool.true_or,forall_const,ren_bytes,nlM_1,nlN_1],by simp only [frEnt,geto,eta,SV.ren,Option.getD_some,List.getElem?_cons_zero,List.length_cons,List.length_nil,Nat.zero_add,Nat.add_zero,Nat.reduceSub,Nat.reduceEqDiff,↓reduceIte,and_self,reduceCtorEq,Nat.succ_ne_self,nlS_1]⟩,by omega,by omega⟩
    · obtain rfl:k=N:=by omega
      have c1:¬ (k:Int) < (k:Int):=by omega
      simp (config:={ maxSteps:=1000000 }) only [hsh,h0,c1,again_x,reduceCtorEq,Nat.reduceEqDiff,eq_self,decide_false, true_and,Nat.add_zero,den_nil,den_o0,↓gd_ft,den_o1,kont_app,den_reg,den_seq,den_cond,den_exit,den_ret,den_xb,den_xc,finE_r,↓reduceIte,↓e_mv,↓e_bin,↓u_binV,↓binI,↓evRes,Opd.ev,Sx.get,put,putO,del,dels,retOf,eta,SV.ren,Int.toNat_natCast]
      obtain ⟨j,rfl⟩:∃ j,k=j+1:=⟨k - 1,by omega⟩
      exact ⟨[(0,0)],by simp [EntM,compat,apartM,keysBelow,eta,idHs,rd,Option.getD_some,List.length_cons,List.length_nil,Nat.zero_add,Nat.add_zero,↓reduceIte,Kind.isOwn,List.take_zero,and_self,true_and,exists_eq_left',Option.some.injEq,ne_eq,implies_true,List.not_mem_nil,Bool.true_or,forall_const,ren_bytes,nlM_1,nlN_1],by simp [Option.getD_some,List.length_cons,List.length_nil,Nat.zero_add,Nat.add_zero,nlS_1,nlN_1]⟩
theorem f211 (seed:List UInt8) (h:Nat) (hh:h≤6) (hs:seed.length≤64) :
    Fun Tryz.prog tH2 11 [.str seed,.int .i64 (h:Int)] [] 0 (.slc 0 0 16 (2 ^ h) none) [(0,⟨.own 23,bys (lvsS seed h)⟩)] 1:=
  f211p seed h hh (fun k=>leafS seed (k:Int)) (lfF seed) (fun k hk=>gSeed_eq hs hk) (fun k=>gPubW_eq (by rw [leafS_len];decide)) (lfF_len seed)
end Go.Proofs.YtkfbkooobfepeaaGreatDoor

/- The reference's trees of hashes: the proof. -/
namespace Go.Proofs.YtkfbkooobfepeaaGreatDoor
open Go Go.Sx Sf
set_option maxRecDepth 100000
set_option linter.unusedVariables false
def prfS:Nat→List UInt8→Nat→List UInt8
  | 0,_,_=>[]
  | h+1,X,i=>if i < 2 ^ h then prfS h (X.take (16 * 2 ^ h)) i++rootS h (X.drop (16 * 2 ^ h)) else prfS h (X.drop (16 * 2 ^ h)) (i - 2 ^ h)++rootS h (X.take (16 * 2 ^ h))
theorem prfS_len:∀ (h:Nat) (X:List UInt8) (i:Nat),(prfS h X i).length=16 * h
  | 0,_,_=>rfl
  | h+1,X,i=>by
    unfold prfS
    split <;> (rw [List.length_append,prfS_len h,rootS_len];omega)
def prvR (h:Nat):SV:=.tup [nlS 1 16 h,.int .i64 0]
def gPrv (h:Nat):GS
  | [.slc 0 0 16 n none,.int .i64 i],[(0,⟨.view,cells⟩)]=>match unB cells with
    | some X=>if n=2 ^ h∧X.length=16 * 2 ^ h∧0≤i∧i.toNat < 2 ^ h then some (prvR h,nlM 1 23 (bys (prfS h X i.toNat)) [] h,nlN 1 h) else none
    | none=>none
  | _,_=>none
theorem gPrv_eq {h n i:Nat} {X:List UInt8} (hn:n=2 ^ h) (hX:X.length=16 * 2 ^ h) (hi:i < 2 ^ h) :
    gPrv h [.slc 0 0 16 n none,.int .i64 (i:Int)] [(0,⟨.view,bys X⟩)]=some (prvR h,nlM 1 23 (bys (prfS h X i)) [] h,nlN 1 h):=by
  unfold gPrv
  simp only [unB_bytes,Int.toNat_natCast]
  rw [if_pos ⟨hn,hX,by omega,hi⟩]
def Prv (h:Nat):Prop:=∀ (X:List UInt8) (i:Nat),X.length=16 * 2 ^ h→i < 2 ^ h →
  Fun Tryz.prog tH2 23 [.slc 0 0 16 (2 ^ h) none,.int .i64 (i:Int)] [(0,⟨.view,bys X⟩)] 1 (prvR h) (nlM 1 23 (bys (prfS h X i)) [] h) (nlN 1 h)
theorem gPrv_ok {h:Nat} (H:Prv h):FunS Tryz.prog tH2 23 (gPrv h):=by
  intro a0 m0 r m1 n1 hh
  unfold gPrv at hh
  split at hh
  · split at hh
    · rename_i X hX
      split at hh
      · rename_i hc
        cases hh
        obtain ⟨rfl,h2,h3,h4⟩:=hc
        obtain ⟨k,rfl⟩:=Int.eq_ofNat_of_zero_le h3
        rw [unB_some hX]
        rw [Int.toNat_natCast] at h4 ⊢
        refine ⟨H X k h2 h4,?_⟩
        rcases Nat.eq_zero_or_pos h with h0 | h0
        · rw [nlM_z h0];simp [freshB]
        · rw [nlM_p h0];simp [freshB]
      · cases hh
    · cases hh
  · cases hh
set_option maxHeartbeats 4000000 in
theorem prv0:Prv 0:=by
  intro X i hX hi
  obtain rfl:i=0:=by simpa using hi
  have hX:X.length=16:=hX
  show Fun Tryz.prog tH2 23 [.slc 0 0 16 1 none,.int .i64 0] [(0,⟨.view,bys X⟩)] 1 (.tup [.val (.slice none 0 0),.int .i64 0]) [] 1
  refine fun_any none cF cF_ok chk223 (show 2≤60 by decide) (by decide) ?_
  unfold sf223 og om oq
  have hl:(bys X).length=16:=by rw [len_bytes,hX]
  simp (config:={ maxSteps:=1000000 }) only [Int.reduceGE,reduceCtorEq,Nat.reduceEqDiff,Int.reduceLT,↓reduceIte,BC,↓PC]
  exact ⟨[(0,0)],by simp [BC]⟩
def tabPr (h:Nat):List (FuncId × GS):=[(23,gPrv h),(10,gRoot h)]
theorem tabPr_ok {h:Nat} (H:Prv h) (R:Root h):∀ x ∈ tabPr h,FunS Tryz.prog tH2 x.1 x.2:=by
  intro x hx
  simp only [tabPr,List.mem_cons,List.not_mem_nil,or_false] at hx
  rcases hx with rfl | rfl
  · exact gPrv_ok H
  · exact gRoot_ok R
set_option maxHeartbeats 8000000 in
theorem prvN {h:Nat} (hh:h < 6) (H:Prv h) (R:Root h):Prv (h+1):=by
  intro X i hX hi
  have e2:2 ^ (h+1)=2 ^ h+2 ^ h:=by rw [Nat.pow_succ];omega
  have gs:=gSpl_eq h hh
  have n6:2 ^ h≤32:=Nat.le_trans (Nat.pow_le_pow_right (by decide) (show h≤5 by omega)) (by decide)
  have n1:1≤2 ^ h:=Nat.one_le_two_pow
  rw [e2] at hX hi ⊢
  unfold P2 at gs
  rw [e2] at gs
  unfold prvR
  rw [nlS_p (Nat.succ_pos h),nlM_p (Nat.succ_pos h),nlN_p (Nat.succ_pos h)]
  refine fun_any none (callS (tabPr h) (callX tbRo)) (callS_ok (tabPr_ok H R) (callX_ok tbRo_ok)) chk223 (show 2≤60 by decide) (by decide) ?_
  unfold sf223 og om oq prfS
  have x1:(X.take (16 * 2 ^ h)).length=16 * 2 ^ h:=by rw [List.length_take];omega
  have x2:(X.drop (16 * 2 ^ h)).length=16 * 2 ^ h:=by rw [List.length_drop];omega
  have g1:=gRoot_eq (h:=h) rfl x1
  have g2:=gRoot_eq (h:=h) rfl x2
  have t1:List.take (2 ^ h * 16) (bys X)=bys (X.take (16 * 2 ^ h)):=by rw [Nat.mul_comm];simp [bys,List.map_take]
  have t2:List.take (2 ^ h * 16) (List.drop (2 ^ h * 16) (bys X))=bys (X.drop (16 * 2 ^ h)):=by
    rw [Nat.mul_comm,show List.drop (16 * 2 ^ h) (bys X)=bys (X.drop (16 * 2 ^ h)) by simp [bys,List.map_drop]]
    exact List.take_of_length_le (by rw [len_bytes,x2];exact Nat.le_refl _)
  have lX:(bys X).length=16 * (2 ^ h+2 ^ h):=by rw [len_bytes,hX]
  have r1:=rootS_len h (X.take (16 * 2 ^ h))
  have r2:=rootS_len h (X.drop (16 * 2 ^ h))
  have gp1:i < 2 ^ h→_:=fun hi=>gPrv_eq (h:=h) (i:=i) rfl x1 hi
  have gp2:¬ i < 2 ^ h→_:=fun hn=>gPrv_eq (h:=h) (i:=i - 2 ^ h) rfl x2 (by omega)
  have lp1:=prfS_len h (X.take (16 * 2 ^ h)) i
  have lp2:=prfS_len h (X.drop (16 * 2 ^ h)) (i - 2 ^ h)
  generalize rootS h (X.take (16 * 2 ^ h))=A at *
  generalize rootS h (X.drop (16 * 2 ^ h))=B at *
  generalize prfS h (X.take (16 * 2 ^ h)) i=Y1 at *
  generalize prfS h (X.drop (16 * 2 ^ h)) (i - 2 ^ h)=Y2 at *
  generalize X.take (16 * 2 ^ h)=X1 at *
  generalize X.drop (16 * 2 ^ h)=X2 at *
  generalize hn:2 ^ h=k at *
  have c1:¬ (i:Int) < 0:=by omega
  have c2:(((k+k:Nat):Int) == 1)=false:=by simp;omega
  have c3:(0:Int)≤(k:Int):=by omega
  have c4:(k:Int)≤((k+k:Nat):Int):=by omega
  have c5:k * 16≤16 * (k+k):=by omega
  have c6:k+k - k=k:=by omega
  have c7:k * 16+k * 16≤16 * (k+k):=by omega
  have c8:(k+k) * 16≤16 * (k+k):=by omega
  have c9:¬ (i:Int) ≥ ((k+k:Nat):Int):=by omega
  have fA:=flat_bytes A
  have fB:=flat_bytes B
  have lA:(bys A).length=16:=by rw [len_bytes,r1]
  have tA:=take16 r1
  have lB:(bys B).length=16:=by rw [len_bytes,r2]
  have tB:=take16 r2
  by_cases hik:i < k
  · have d1:(i:Int) < (k:Int):=by omega
    have gp:=gp1 hik
    rw [if_pos hik]
    unfold prvR at gp
    have ap:bys Y1++bys B=bys (Y1++B):=bytes_app _ _
    rcases Nat.eq_zero_or_pos h with h0 | h0
    · subst h0
      obtain rfl:Y1=[]:=List.length_eq_zero_iff.1 (by omega)
      simp only [nlS_0,nlM_0,nlN_0] at gp
      simp (config:={ maxSteps:=1000000 }) only [tabPr,tbRo,↓gs,↓g2,↓gp,Option.map_none,c1,c2,c3,c4,c5,c6,c7,c8,c9,d1,t1,t2,lX,lB,tB,reduceCtorEq,Nat.reduceEqDiff,Nat.reduceAdd,Nat.reduceSub,Nat.reduceMul,Nat.reduceLT,Int.reduceToNat,Int.reduceLE,↓reduceIte,splice,BC,↓PC]
      exact ⟨Int.le_refl _,by decide,by decide,[(0,0),(2,0)],by simp [Nat.reduceAdd,Nat.reduceLeDiff,↓reduceIte,BC],by simp⟩
    · rw [nlS_p h0,nlM_p h0,nlN_p h0] at gp
      have e0:List.take (h * 16) (bys Y1)=bys Y1:=List.take_of_length_le (by rw [len_bytes];omega)
      have n0:h * 16≤Y1.length:=by omega
      simp (config:={ maxSteps:=1000000 }) only [tabPr,tbRo,↓gs,↓g2,↓gp,Option.map_none,c1,c2,c3,c4,c5,c6,c7,c8,c9,d1,t1,t2,lX,lB,tB,e0,ap,n0,reduceCtorEq,Nat.reduceEqDiff,Nat.reduceAdd,Nat.reduceSub,Nat.reduceMul,Nat.reduceLT,Int.reduceToNat,Int.reduceLE,↓reduceIte,splice,BC,↓PC]
      exact ⟨Int.le_refl _,by omega,by decide,[(0,0),(3,0)],by simp [Nat.reduceAdd,Nat.reduceLeDiff,↓reduceIte,BC],by simp⟩
  · have d1:¬ (i:Int) < (k:Int):=by omega
    have gp:=gp2 hik
    rw [if_neg hik]
    have w1:IntKind.i64.wrap ((i:Int) - (k:Int))=((i - k:Nat):Int):=by rw [wrap64_eq (by omega) (by omega)];omega
    unfold prvR at gp
    have ap:bys Y2++bys A=bys (Y2++A):=bytes_app _ _
    rcases Nat.eq_zero_or_pos h with h0 | h0
    · subst h0
      obtain rfl:Y2=[]:=List.length_eq_zero_iff.1 (by omega)
      simp only [nlS_0,nlM_0,nlN_0] at gp
      simp (config:={ maxSteps:=1000000 }) only [tabPr,tbRo,↓gs,↓g1,↓gp,Option.map_none,c1,c2,c3,c4,c5,c6,c7,c8,c9,d1,w1,t1,t2,lX,lA,tA,reduceCtorEq,Nat.reduceEqDiff,Nat.reduceAdd,Nat.reduceSub,Nat.reduceMul,Nat.reduceLT,Int.reduceToNat,Int.reduceLE,↓reduceIte,splice,BC,↓PC]
      exact ⟨Int.le_refl _,by decide,by decide,[(0,0),(2,0)],by simp [Nat.reduceAdd,Nat.reduceLeDiff,↓reduceIte,BC],by simp⟩
    · rw [nlS_p h0,nlM_p h0,nlN_p h0] at gp
      have e0:List.take (h * 16) (bys Y2)=bys Y2:=List.take_of_length_le (by rw [len_bytes];omega)
      have n0:h * 16≤Y2.length:=by omega
      simp (config:={ maxSteps:=1000000 }) only [tabPr,tbRo,↓gs,↓g1,↓gp,Option.map_none,c1,c2,c3,c4,c5,c6,c7,c8,c9,d1,w1,t1,t2,lX,lA,tA,e0,ap,n0,reduceCtorEq,Nat.reduceEqDiff,Nat.reduceAdd,Nat.reduceSub,Nat.reduceMul,Nat.reduceLT,Int.reduceToNat,Int.reduceLE,↓reduceIte,splice,BC,↓PC]
      exact ⟨Int.le_refl _,by omega,by decide,[(0,0),(3,0)],by simp [Nat.reduceAdd,Nat.reduceLeDiff,↓reduceIte,BC],by simp⟩
theorem prv:∀ h,h≤6→Prv h
  | 0,_=>prv0
  | h+1,hh=>prvN (by omega) (prv h (by omega)) (root h (by omega))
end Go.Proofs.YtkfbkooobfepeaaGreatDoor

/- The reference's trees of signatures: the public key, the signature. -/
namespace Go.Proofs.YtkfbkooobfepeaaGreatDoor
open Go Go.Sx Sf
set_option maxRecDepth 100000
set_option linter.unusedVariables false
def tabDw:List (FuncId × GS):=[(27,gIntR)]
theorem tabDw_ok:∀ x ∈ tabDw,FunS Tryz.prog tH2 x.1 x.2:=by
  intro x hx
  simp only [tabDw,List.mem_singleton] at hx
  subst hx
  exact gIntR_ok
def cDw:CallT:=callS tabDw cF
theorem cDw_ok:∀ f a m n K,cDw f a m n K→callT Tryz.prog tH2 f a m n K:=callS_ok tabDw_ok cF_ok
theorem f229n:Fun Tryz.prog tH2 29 [.val (.slice none 0 0)] [] 0 (.slc 0 0 1 (encI 0).length none) [(0,⟨.own 5,bys (encI 0)⟩)] 1:=by
  refine fun_any none cDw cDw_ok chk229 (show 1≤29 by decide) (by decide) ?_
  unfold sf229 om oq
  have gi:=gIntR_eq (n:=0) ⟨by omega,by omega⟩
  simp (config:={ maxSteps:=1000000 }) only [cDw,tabDw,↓gi,reduceCtorEq,Nat.reduceEqDiff,↓reduceIte,BC,↓PC]
  rw [den_loop]
  refine den_unroll cDw_ok (callT_point _ _) 1 ?_
  simp (config:={ maxSteps:=1000000 }) only [reduceCtorEq,Nat.reduceEqDiff,Int.reduceLT,↓reduceIte,BC,↓PC]
  exact ⟨[(0,0)],by simp [↓reduceIte,BC],by simp⟩
set_option maxHeartbeats 8000000 in
theorem f229 (n:Nat) (X:List UInt8) (hX:X.length=16 * n) (hn:n≤64) :
    Fun Tryz.prog tH2 29 [.slc 0 0 16 n none] [(0,⟨.view,bys X⟩)] 1 (.slc 1 0 1 (encI (n:Int)++X).length none) [(1,⟨.own 5,bys (encI (n:Int)++X)⟩)] 2:=by
  refine fun_any none cDw cDw_ok chk229 (show 1≤29 by decide) (by decide) ?_
  unfold sf229 om oq
  have gi:=gIntR_eq (n:=(n:Int)) ⟨by omega,by omega⟩
  have he:=encI_len (n:Int)
  generalize encI (n:Int)=E at *
  have lX:(bys X).length=16 * n:=by rw [len_bytes,hX]
  have z0:n * 16≤16 * n:=by omega
  simp (config:={ maxSteps:=1000000 }) only [cDw,tabDw,↓gi,reduceCtorEq,Nat.reduceEqDiff,Nat.reduceAdd,↓reduceIte,BC,↓PC]
  rw [den_loop]
  have rE:∀ η b,SV.renL η (bys b)=bys b:=fun η b=>ren_bytes η b
  refine den_inv cDw_ok (σ:=Nat) (fun k=>[(4,.int .i64 (k:Int)),(3,.slc 1 0 1 (E.length+16 * k) none),(0,.slc 0 0 16 n none)])
    (fun k=>[(1,⟨.own 5,bys (E++X.take (16 * k))⟩),(0,⟨.view,bys X⟩)]) (fun _=>2) (fun k=>k≤n) (fun k=>n - k) 0 ?_ (Nat.zero_le _) ?_
  · exact ⟨[(0,0),(1,0)],by simp [Nat.reduceAdd,Nat.reduceLeDiff,↓reduceIte,BC],by simp [Nat.reduceAdd,Nat.reduceLeDiff,↓reduceIte,reduceCtorEq,BC]⟩
  · intro k hk
    have lk:(E++X.take (16 * k)).length=E.length+16 * k:=by rw [List.length_append,List.length_take];omega
    by_cases hkn:k < n
    · have c1:(k:Int) < (n:Int):=by omega
      have c2:(0:Int)≤(k:Int):=by omega
      have v4:IntKind.i64.wrap ((k:Int)+1)=((k+1:Nat):Int):=by rw [wrap64_eq (by omega) (by omega)];omega
      simp (config:={ maxSteps:=1000000 }) only [c1,reduceCtorEq,Nat.reduceEqDiff,↓reduceIte,BC,↓PC]
      rw [den_loop]
      refine den_inv cDw_ok (σ:=Nat) (fun j=>[(5,.int .i64 (j:Int)),(4,.int .i64 (k:Int)),(3,.slc 1 0 1 (E.length+(16 * k+j)) none),(0,.slc 0 0 16 n none)])
        (fun j=>[(1,⟨.own 5,bys (E++X.take (16 * k+j))⟩),(0,⟨.view,bys X⟩)]) (fun _=>2) (fun j=>j≤16) (fun j=>16 - j) 0 ?_ (Nat.zero_le _) ?_
      · exact ⟨[(0,0),(1,0)],by simp [Nat.reduceAdd,Nat.reduceLeDiff,↓reduceIte,BC],by simp [Nat.reduceAdd,Nat.reduceEqDiff,Nat.reduceLeDiff,↓reduceIte,reduceCtorEq,BC]⟩
      · intro j hj
        have lj:(E++X.take (16 * k+j)).length=E.length+(16 * k+j):=by rw [List.length_append,List.length_take];omega
        by_cases h16:j < 16
        · have d1:(j:Int) < 16:=by omega
          have d2:(0:Int)≤(j:Int):=by omega
          have v5:IntKind.i64.wrap ((j:Int)+1)=((j+1:Nat):Int):=by rw [wrap64_eq (by omega) (by omega)];omega
          obtain ⟨x,hx⟩:∃ x,X[k * 16+j]?=some x:=⟨_,List.getElem?_eq_getElem (by omega)⟩
          have gx:=get_bysI hx
          have ap:bys (E++X.take (16 * k+j))++[SV.byte x]=bys (E++X.take (16 * k+(j+1))):=by
            rw [bytes_app1,List.append_assoc,← Nat.add_assoc,List.take_add_one,show 16 * k+j=k * 16+j by omega,hx];rfl
          have t0:List.take (E.length+(16 * k+j)) (bys (E++X.take (16 * k+j)))=bys (E++X.take (16 * k+j)):=List.take_of_length_le (by rw [len_bytes,lj];exact Nat.le_refl _)
          have z1:k * 16+j < 16 * n:=by omega
          simp (config:={ maxSteps:=1000000 }) only [lX,c1,c2,d1,d2,v5,gx,lj,t0,reduceCtorEq,Nat.reduceEqDiff,Nat.reduceAdd,↓reduceIte,splice,BC,↓PC]
          rw [byte_I,ap]
          exact ⟨by omega,by omega,by decide,j+1,⟨[(0,0),(3,0)],by simp only [Nat.reduceAdd,Nat.reduceSub,Nat.reduceLT,Nat.reduceLeDiff,↓reduceIte,reduceCtorEq,BC],by simp [Nat.add_assoc,Nat.reduceAdd,Nat.reduceEqDiff,Nat.reduceLeDiff,↓reduceIte,reduceCtorEq,BC]⟩,by omega,by omega⟩
        · obtain rfl:j=16:=by omega
          simp (config:={ maxSteps:=1000000 }) only [v4,reduceCtorEq,Nat.reduceEqDiff,Int.reduceLT,↓reduceIte,BC,↓PC]
          rw [show 16 * k+16=16 * (k+1) by omega]
          exact ⟨k+1,⟨[(0,0),(1,0)],by simp only [Nat.reduceAdd,Nat.reduceSub,Nat.reduceLT,Nat.reduceLeDiff,↓reduceIte,BC],by simp [Nat.reduceAdd,Nat.reduceEqDiff,Nat.reduceLeDiff,↓reduceIte,reduceCtorEq,BC]⟩,by omega,by omega⟩
    · obtain rfl:k=n:=by omega
      have c1:¬ (k:Int) < (k:Int):=by omega
      have e1:X.take (16 * k)=X:=List.take_of_length_le (by omega)
      simp (config:={ maxSteps:=1000000 }) only [c1,e1,reduceCtorEq,Nat.reduceEqDiff,↓reduceIte,BC,↓PC]
      exact ⟨[(0,0),(1,0)],by simp [Nat.reduceAdd,Nat.reduceLeDiff,↓reduceIte,BC],by simp [hX]⟩
end Go.Proofs.YtkfbkooobfepeaaGreatDoor

/- The reference's trees of signatures: the public key, the signature. -/
namespace Go.Proofs.YtkfbkooobfepeaaGreatDoor
open Go Go.Sx Sf
set_option maxRecDepth 100000
set_option linter.unusedVariables false
def gDgsW:GS
  | [.slc 0 0 16 n none],[(0,⟨.view,cells⟩)]=>match unB cells with
    | some X=>if X.length=16 * n∧n≤64 then some (.slc 1 0 1 (encI (n:Int)++X).length none,[(1,⟨.own 5,bys (encI (n:Int)++X)⟩)],2) else none
    | none=>none
  | [.val (.slice none 0 0)],[]=>some (.slc 0 0 1 (encI 0).length none,[(0,⟨.own 5,bys (encI 0)⟩)],1)
  | _,_=>none
theorem gDgsW_eq {n:Nat} {X:List UInt8} (hX:X.length=16 * n) (hn:n≤64) :
    gDgsW [.slc 0 0 16 n none] [(0,⟨.view,bys X⟩)]=some (.slc 1 0 1 (encI (n:Int)++X).length none,[(1,⟨.own 5,bys (encI (n:Int)++X)⟩)],2):=by
  unfold gDgsW
  simp only [unB_bytes]
  rw [if_pos ⟨hX,hn⟩]
theorem gDgsW_z:gDgsW [.val (.slice none 0 0)] []=some (.slc 0 0 1 (encI 0).length none,[(0,⟨.own 5,bys (encI 0)⟩)],1):=rfl
theorem gDgsW_ok:FunS Tryz.prog tH2 29 gDgsW:=by
  intro a0 m0 r m1 n1 h
  unfold gDgsW at h
  split at h
  · split at h
    · rename_i X hX
      split at h
      · rename_i hc
        cases h
        rw [unB_some hX]
        exact ⟨f229 _ X hc.1 hc.2,by simp [freshB]⟩
      · cases h
    · cases h
  · cases h
    exact ⟨f229n,by simp [freshB]⟩
  · cases h
def gLvs (L:List UInt8→Nat→List UInt8):GS
  | [.str seed,.int .i64 (.ofNat h)],[]=>if seed.length≤64∧h≤6 then some (.slc 0 0 16 (2 ^ h) none,[(0,⟨.own 23,bys (L seed h)⟩)],1) else none
  | _,_=>none
theorem gLvs_eq {L:List UInt8→Nat→List UInt8} {seed:List UInt8} {h:Nat} (hs:seed.length≤64) (hh:h≤6):gLvs L [.str seed,.int .i64 (h:Int)] []=some (.slc 0 0 16 (2 ^ h) none,[(0,⟨.own 23,bys (L seed h)⟩)],1):=if_pos ⟨hs,hh⟩
def LvsOk (L:List UInt8→Nat→List UInt8):Prop:=∀ seed h,seed.length≤64→h≤6→(L seed h).length=16 * 2 ^ h ∧
  Fun Tryz.prog tH2 11 [.str seed,.int .i64 (h:Int)] [] 0 (.slc 0 0 16 (2 ^ h) none) [(0,⟨.own 23,bys (L seed h)⟩)] 1
theorem lvs_ok:LvsOk lvsS:=fun seed h hs hh=>⟨lvsS_len seed h,f211 seed h hh hs⟩
theorem gLvs_ok {L:List UInt8→Nat→List UInt8} (H:LvsOk L):FunS Tryz.prog tH2 11 (gLvs L):=by
  intro a0 m0 r m1 n1 h
  unfold gLvs at h
  split at h
  · split at h
    · rename_i hc
      cases h
      exact ⟨(H _ _ hc.1 hc.2).2,by simp [freshB]⟩
    · cases h
  · cases h
def tabSg (L:List UInt8→Nat→List UInt8) (h:Nat):List (FuncId × GS):=[(11,gLvs L),(10,gRoot h),(23,gPrv h),(27,gIntR),(28,gBytesR),(29,gDgsW)]
theorem tabSg_ok {L:List UInt8→Nat→List UInt8} (H:LvsOk L) {h:Nat} (hh:h≤6):∀ x ∈ tabSg L h,FunS Tryz.prog tH2 x.1 x.2:=by
  intro x hx
  simp only [tabSg,List.mem_cons,List.not_mem_nil,or_false] at hx
  rcases hx with rfl | rfl | rfl | rfl | rfl | rfl
  · exact gLvs_ok H
  · exact gRoot_ok (root h hh)
  · exact gPrv_ok (prv h hh)
  · exact gIntR_ok
  · exact gBytesR_ok
  · exact gDgsW_ok
theorem f204p (L:List UInt8→Nat→List UInt8) (H:LvsOk L) (seed:List UInt8) (h:Nat) (hs:seed.length=32) (hh:h≤6) :
    Fun Tryz.prog tH2 4 [.str seed,.int .i64 (h:Int)] [] 0 (.tup [.agg (bys (rootS h (L seed h))),.int .i64 0]) [] 0:=by
  refine fun_pure none (callS (tabSg L h) cF) (callS_ok (tabSg_ok H hh) cF_ok) chk204 (show 2≤22 by decide) (fun η=>by simp only [SV.ren,SV.renL,ren_bytes]) ?_
  unfold sf204 og om oq ov
  have lL:=(H seed h (by omega) hh).1
  have gl:=gLvs_eq (L:=L) (seed:=seed) (h:=h) (by omega) hh
  generalize L seed h=X at *
  have gr:=gRoot_eq (h:=h) rfl lL
  have rl:=rootS_len h X
  generalize rootS h X=R at *
  have lR:(bys R).length=16:=by rw [len_bytes,rl]
  have tR:=take16 rl
  have lX:(bys X).length=16 * 2 ^ h:=by rw [len_bytes,lL]
  have tX:List.take (2 ^ h * 16) (bys X)=bys X:=List.take_of_length_le (by omega)
  have c0:((seed.length:Int) != 32)=false:=by rw [hs];rfl
  have c1:¬ (h:Int) < 0:=by omega
  have c2:¬ (h:Int) > 6:=by omega
  have c3:2 ^ h * 16≤16 * 2 ^ h:=by omega
  generalize 2 ^ h=N at *
  simp (config:={ maxSteps:=1000000 }) only [tabSg,↓gl,↓gr,c0,c1,c2,c3,lR,tR,lX,tX,reduceCtorEq,Nat.reduceEqDiff,Nat.reduceAdd,Nat.reduceSub,Nat.reduceLT,↓reduceIte,upd,splice,BC,↓PC]
theorem f204e (seed:List UInt8) (ht:Int) (hc:seed.length≠32∨ht < 0∨6 < ht) :
    Fun Tryz.prog tH2 4 [.str seed,.int .i64 ht] [] 0 (.tup [.agg (bys zero16),.int .i64 1]) [] 0:=by
  refine fun_pure none cF cF_ok chk204 (show 2≤22 by decide) (fun η=>by simp only [SV.ren,SV.renL,ren_bytes]) ?_
  unfold sf204 og om oq ov
  by_cases h1:seed.length=32
  · have c0:((seed.length:Int) != 32)=false:=by rw [h1];rfl
    by_cases h2:ht < 0
    · simp (config:={ maxSteps:=1000000 }) only [c0,h2,undef,reduceCtorEq,Nat.reduceEqDiff,Nat.reduceAdd,↓reduceIte,upd,splice,BC,↓PC]
      rfl
    · have c2:ht > 6:=by omega
      simp (config:={ maxSteps:=1000000 }) only [c0,h2,c2,reduceCtorEq,Nat.reduceEqDiff,Nat.reduceAdd,↓reduceIte,upd,splice,BC,↓PC]
      rfl
  · have c0:((seed.length:Int) != 32)=true:=by simp;omega
    simp (config:={ maxSteps:=1000000 }) only [c0,undef,reduceCtorEq,Nat.reduceEqDiff,Nat.reduceAdd,↓reduceIte,upd,splice,BC,↓PC]
    rfl
def gPb (R:List UInt8→Nat→List UInt8):List SV→Option SV
  | [.str seed,.int .i64 ht]=>match decide (seed.length=32∧0≤ht∧ht≤6) with
    | true=>some (.tup [.agg (bys (R seed ht.toNat)),.int .i64 0])
    | false=>some (.tup [.agg (bys zero16),.int .i64 1])
  | _=>none
def pubT (seed:List UInt8) (h:Nat):List UInt8:=rootS h (lvsS seed h)
theorem pubT_len (seed:List UInt8) (h:Nat):(pubT seed h).length=16:=rootS_len _ _
theorem gPb_yes {R:List UInt8→Nat→List UInt8} {seed:List UInt8} {h:Nat} (hs:seed.length=32) (hh:h≤6):gPb R [.str seed,.int .i64 (h:Int)]=some (.tup [.agg (bys (R seed h)),.int .i64 0]):=by
  unfold gPb
  simp only
  rw [decide_eq_true ⟨hs,by omega,by omega⟩,Int.toNat_natCast]
theorem gPb_no {R:List UInt8→Nat→List UInt8} {seed:List UInt8} {ht:Int} (h:seed.length≠32∨ht < 0∨6 < ht):gPb R [.str seed,.int .i64 ht]=some (.tup [.agg (bys zero16),.int .i64 1]):=by
  unfold gPb
  simp only
  rw [decide_eq_false (by omega)]
def PubOk (R:List UInt8→Nat→List UInt8):Prop:=∀ (seed:List UInt8) (h:Nat),seed.length=32→h≤6→Fun Tryz.prog tH2 4 [.str seed,.int .i64 (h:Int)] [] 0 (.tup [.agg (bys (R seed h)),.int .i64 0]) [] 0
theorem pub_ok:PubOk pubT:=fun seed h hs hh=>f204p lvsS lvs_ok seed h hs hh
def gSgn:List SV→Option SV
  | [.str seed,.agg cells]=>match unB cells with
    | some d=>if seed.length≤64∧d.length=16 then some (.str (sgnS seed d)) else none
    | none=>none
  | _=>none
theorem gSgn_eq {seed d:List UInt8} (hs:seed.length≤64) (hd:d.length=16):gSgn [.str seed,.agg (bys d)]=some (.str (sgnS seed d)):=by
  unfold gSgn
  simp only [unB_bytes]
  rw [if_pos ⟨hs,hd⟩]
def tbSg (R:List UInt8→Nat→List UInt8):Tab:=⟨[(4,gPb R),(25,gSeed),(26,gDig6),(24,gSgn)],[]⟩
theorem tbSg_ok {R:List UInt8→Nat→List UInt8} (HR:PubOk R):TabX Tryz.prog tH2 (tbSg R):=by
  refine ⟨fun x h args r hr=>?_,fun x h=>by simp [tbSg] at h⟩
  simp only [tbSg,List.mem_cons,List.not_mem_nil,or_false] at h
  rcases h with rfl | rfl | rfl | rfl
  · simp only at hr
    unfold gPb at hr
    split at hr
    · split at hr
      · rename_i hc
        have hc:=of_decide_eq_true hc
        obtain ⟨h1,h2,h3⟩:=hc
        obtain ⟨k,rfl⟩:=Int.eq_ofNat_of_zero_le h2
        cases hr
        rw [Int.toNat_natCast]
        exact ⟨HR _ k h1 (by omega),fun η=>rfl,fun η=>by simp only [SV.renL,SV.ren,ren_bytes]⟩
      · rename_i hc
        have hc:=of_decide_eq_false hc
        cases hr
        exact ⟨f204e _ _ (by omega),fun η=>rfl,fun η=>by simp only [SV.renL,SV.ren,ren_bytes]⟩
    · cases hr
  · simp only at hr
    unfold gSeed at hr
    split at hr
    · split at hr
      · rename_i hc
        cases hr
        exact ⟨f225 _ _ hc.1 hc.2,fun η=>rfl,fun η=>rfl⟩
      · cases hr
    · cases hr
  · simp only at hr
    obtain ⟨h1,h2,h3⟩:=gDig6_of (f:=26) (fun p msg i h1 h2 h3=>f67 p msg i h1 h2 h3) args r hr
    exact ⟨h1,h2,fun η=>by simp only [SV.renL,h3]⟩
  · simp only at hr
    unfold gSgn at hr
    split at hr
    · split at hr
      · rename_i d hd
        split at hr
        · rename_i hc
          cases hr
          rw [unB_some hd]
          exact ⟨f224 _ d hc.1 hc.2,fun η=>by simp only [SV.renL,SV.ren,ren_bytes],fun η=>rfl⟩
        · cases hr
      · cases hr
    · cases hr
def sigE (i:Int) (G:List UInt8) (h:Nat) (Y:List UInt8):List UInt8:=encI i++encS G++(encI (h:Int)++Y)
set_option maxHeartbeats 8000000 in
theorem f207p (L:List UInt8→Nat→List UInt8) (H:LvsOk L) (R:List UInt8→Nat→List UInt8) (HR:PubOk R) (seed msg:List UInt8) (h i:Nat) (hs:seed.length=32) (hh:h≤6) (hi:i < 2 ^ h) (hm:msg.length≤1048576)
    (S D G:List UInt8) (lR:(R seed h).length=16) (gS:gSeed [.str seed,.int .i64 (i:Int)]=some (.str S)) (gD:gDig6 [.agg (bys (R seed h)),.int .i64 (i:Int),.str msg]=some (.agg (bys D)))
    (hD:D.length=16) (gG:gSgn [.str S,.agg (bys D)]=some (.str G)) (hG:G.length=560) :
    Fun Tryz.prog tH2 7 [.str seed,.int .i64 (h:Int),.int .i64 (i:Int),.str msg] [] 0 (.tup [.str (sigE (i:Int) G h (prfS h (L seed h) i)),.int .i64 0]) [] 0:=by
  refine fun_pure none (callS (tabSg L h) (callX (tbSg R))) (callS_ok (tabSg_ok H hh) (callX_ok (tbSg_ok HR))) chk207 (show 4≤62 by decide) (fun η=>by simp only [SV.ren,SV.renL]) ?_
  unfold sf207 og oh om oq ov sigE
  have lL:=(H seed h (by omega) hh).1
  have gl:=gLvs_eq (L:=L) (seed:=seed) (h:=h) (by omega) hh
  have gP:=gPb_yes (R:=R) hs hh
  generalize L seed h=X at *
  have gp:=gPrv_eq (h:=h) rfl lL hi
  have lY:=prfS_len h X i
  generalize prfS h X i=Y at *
  generalize R seed h=Q at *
  have lQ:(bys Q).length=16:=by rw [len_bytes,lR]
  have tQ:=take16 lR
  have fQ:=flat_bytes Q
  have fD:=flat_bytes D
  have lX:(bys X).length=16 * 2 ^ h:=by rw [len_bytes,lL]
  have tX:List.take (2 ^ h * 16) (bys X)=bys X:=List.take_of_length_le (by omega)
  have c1:¬ (i:Int) < 0:=by omega
  have hsh:=p2_shl hh
  have hP:P2 h=((2 ^ h:Nat):Int):=rfl
  rw [hP] at hsh
  have h0:(0:Int)≤(h:Int):=by omega
  have c2:¬ (i:Int) ≥ ((2 ^ h:Nat):Int):=by omega
  have c3:2 ^ h * 16≤16 * 2 ^ h:=by omega
  have c4:¬ (msg.length:Int) > 1048576:=by omega
  have n64:2 ^ h≤64:=by have:=(p2_le hh).1;rw [hP] at this;omega
  have gi:=gIntR_eq (n:=(i:Int)) ⟨by omega,by omega⟩
  have gb:=gBytesR_eq (s:=G) (by omega)
  have le1:=encI_len (i:Int)
  have le2:=encI_len (h:Int)
  have le3:(encS G).length≤600:=by have:=encI_len (G.length:Int);simp only [encS,List.length_append];omega
  generalize encI (i:Int)=E at *
  generalize encS G=B at *
  have tE:=take_bytes E
  have auE:=all_isU8 E
  have mbE:=map_byteOf E
  have tB:=take_bytes B
  have auB:=all_isU8 B
  have mbB:=map_byteOf B
  generalize 2 ^ h=N at *
  unfold prvR at gp
  rcases Nat.eq_zero_or_pos h with hz | hz
  · subst hz
    obtain rfl:Y=[]:=List.length_eq_zero_iff.1 (by omega)
    have gd:=gDgsW_z
    simp only [Int.cast_ofNat_Int] at gP gl hsh h0 le2 ⊢
    have tF:=take_bytes (encI 0)
    have auF:=all_isU8 (encI 0)
    have mbF:=map_byteOf (encI 0)
    generalize encI 0=F at *
    simp only [nlS_0,nlM_0,nlN_0] at gp
    simp (config:={ maxSteps:=1000000 }) only [tabSg,tbSg,↓gP,↓gl,↓gp,↓gS,↓gD,↓gG,↓gi,↓gb,↓gd,lQ,tQ,fQ,fD,lX,tX,c1,c2,c3,c4,hsh,h0,tE,auE,mbE,tB,auB,mbB,tF,auF,mbF,Int.reduceBNe,reduceCtorEq,Nat.reduceEqDiff,Nat.reduceAdd,Nat.reduceSub,Nat.reduceLeDiff,Nat.reduceLT,Int.reduceToNat,↓reduceIte,evA,upd,splice,BC,↓PC]
    exact ⟨by unfold maxStr;omega,by unfold maxStr;rw [List.length_append];omega⟩
  · rw [nlS_p hz,nlM_p hz,nlN_p hz] at gp
    have gd:=gDgsW_eq (n:=h) lY (by omega)
    have lFY:(encI (h:Int)++Y).length≤1000:=by rw [List.length_append];omega
    generalize encI (h:Int)++Y=F at *
    have tF:=take_bytes F
    have auF:=all_isU8 F
    have mbF:=map_byteOf F
    have lYb:(bys Y).length=16 * h:=by rw [len_bytes,lY]
    have tY:List.take (h * 16) (bys Y)=bys Y:=List.take_of_length_le (by omega)
    have c5:h * 16≤16 * h:=by omega
    have fY:=flat_bytes Y
    simp (config:={ maxSteps:=1000000 }) only [tabSg,tbSg,↓gP,↓gl,↓gp,↓gS,↓gD,↓gG,↓gi,↓gb,↓gd,lQ,tQ,fQ,fD,lX,tX,c1,c2,c3,c4,c5,hsh,h0,tE,auE,mbE,tB,auB,mbB,tF,auF,mbF,lYb,tY,fY,Int.reduceBNe,reduceCtorEq,Nat.reduceEqDiff,Nat.reduceAdd,Nat.reduceSub,Nat.reduceLeDiff,Nat.reduceLT,↓reduceIte,evA,upd,splice,BC,↓PC]
    exact ⟨by unfold maxStr;omega,by unfold maxStr;rw [List.length_append];omega⟩
set_option maxHeartbeats 4000000 in
theorem f207x (R:List UInt8→Nat→List UInt8) (HR:PubOk R) (seed msg:List UInt8) (h:Nat) (i:Int) (hs:seed.length=32) (hh:h≤6) (lR:(R seed h).length=16) (hi:i < 0∨((2 ^ h:Nat):Int)≤i) :
    Fun Tryz.prog tH2 7 [.str seed,.int .i64 (h:Int),.int .i64 i,.str msg] [] 0 (.tup [.str [],.int .i64 22]) [] 0:=by
  refine fun_pure none (callX (tbSg R)) (callX_ok (tbSg_ok HR)) chk207 (show 4≤62 by decide) (fun η=>by simp only [SV.ren,SV.renL]) ?_
  unfold sf207 og oh om oq ov
  have gP:=gPb_yes (R:=R) hs hh
  generalize R seed h=Q at *
  have lQ:(bys Q).length=16:=by rw [len_bytes,lR]
  have tQ:=take16 lR
  have fQ:=flat_bytes Q
  have hsh:=p2_shl hh
  have hP:P2 h=((2 ^ h:Nat):Int):=rfl
  rw [hP] at hsh
  have h0:(0:Int)≤(h:Int):=by omega
  generalize 2 ^ h=N at *
  by_cases h1:i < 0
  · simp (config:={ maxSteps:=1000000 }) only [tbSg,↓gP,lQ,fQ,h1,undef,Int.reduceBNe,reduceCtorEq,Nat.reduceEqDiff,Nat.reduceAdd,↓reduceIte,upd,splice,BC,↓PC]
  · have c2:i ≥ (N:Int):=by omega
    simp (config:={ maxSteps:=1000000 }) only [tbSg,↓gP,lQ,fQ,h1,c2,hsh,h0,Int.reduceBNe,reduceCtorEq,Nat.reduceEqDiff,Nat.reduceAdd,↓reduceIte,upd,splice,BC,↓PC]
end Go.Proofs.YtkfbkooobfepeaaGreatDoor

/- Package wire and the reference: the reading of lists of integers. -/
namespace Go.Proofs.YtkfbkooobfepeaaGreatDoor
open Go Go.Sx Sf
set_option maxRecDepth 100000
set_option linter.unusedVariables false
variable {tS:List (Nat × List SV)}
def rI (i:Nat) (x:List Int × Nat × Int):SV:=.tup [nlS i 1 x.1.length,.int .i64 (x.2.1:Int),.int .i64 x.2.2]
end Go.Proofs.YtkfbkooobfepeaaGreatDoor

/- The reader of package custodian. -/
namespace Go.Proofs.YtkfbkooobfepeaaGreatDoor
open Go Go.Sx Sf
set_option maxRecDepth 100000
set_option linter.unusedVariables false
variable {tS:List (Nat × List SV)}
def rdB (o len:Nat) (e:Int):Blk:=⟨.own 75,[.slc 1 o 1 len none,.int .i64 e]⟩
end Go.Proofs.YtkfbkooobfepeaaGreatDoor

/- The reader of package custodian: the parts of a member. -/
namespace Go.Proofs.YtkfbkooobfepeaaGreatDoor
open Go Go.Sx Sf
set_option maxRecDepth 100000
set_option linter.unusedVariables false
variable {tS:List (Nat × List SV)}
theorem Pub.take {l:List Mb} (h:Pub l) (i:Nat):Pub (l.take i):=fun m hm=>h m (List.mem_of_mem_take hm)
theorem Pub.set {ms:List Mb} {i:Nat} {m:Mb} (hP:Pub ms) (hm:m.pub.length=16):Pub (ms.set i m):=fun x hx=>by
  rcases List.mem_or_eq_of_mem_set hx with h | h
  · exact hP x h
  · rw [h];exact hm

structure RS where
  rest:List UInt8
  e:Int
  ms:List Mb
def RS.name (i:Nat) (m:Mb) (s:RS):RS:=if s.e≠0 then s else if (bytS s.rest).2.2≠0 then { s with e:=(bytS s.rest).2.2 } else ⟨s.rest.drop (bytS s.rest).2.1,0,s.ms.set i { m with name:=(bytS s.rest).1 }⟩
def RS.pub (i:Nat) (m:Mb) (s:RS):RS:=if s.e≠0 then s else if s.rest.length < 16 then { s with e:=5 } else ⟨s.rest.drop 16,0,s.ms.set i { m with pub:=s.rest.take 16 }⟩
def RS.height (i:Nat) (m:Mb) (s:RS):RS:=if s.e≠0 then s else if (decS s.rest).2.2≠0 then { s with e:=(decS s.rest).2.2 } else ⟨s.rest.drop (decS s.rest).2.1,0,s.ms.set i { m with h:=(decS s.rest).1 }⟩
def RS.mem (b:List UInt8) (t:RS):Mem:=[(0,rdB (b.length - t.rest.length) t.rest.length t.e),(2,⟨.own 31,mcs t.ms⟩)]
theorem byt_err {b:List UInt8} {s:List UInt8} {u:Nat} {e:Int} (h:bytS b=(s,u,e)):(e=0∧u≤b.length∧0 < u)∨(e≠0∧u=0):=by
  unfold bytS at h
  by_cases he:cntE b 1=0
  · rw [if_neg (by simpa using he)] at h
    obtain ⟨n,q,hx,h1,h2,h3⟩:=cnt_ok he
    rw [hx] at h
    simp only [Prod.mk.injEq,Int.toNat_natCast] at h
    rw [Nat.div_one] at h2
    obtain ⟨_,rfl,rfl⟩:=h
    exact .inl ⟨rfl,by omega,by omega⟩
  · rw [if_pos he] at h
    simp only [Prod.mk.injEq] at h
    obtain ⟨_,rfl,rfl⟩:=h
    exact .inr ⟨he,rfl⟩
end Go.Proofs.YtkfbkooobfepeaaGreatDoor

/- Decode of package custodian. -/
namespace Go.Proofs.YtkfbkooobfepeaaGreatDoor
open Go Go.Sx Sf
set_option maxRecDepth 100000
set_option linter.unusedVariables false
variable {tS:List (Nat × List SV)}
def zM:Mb:=⟨[],List.replicate 16 0,0⟩
def RS.p1 (i:Nat) (s:RS):RS:=s.name i (s.ms.getD i zM)
def RS.p2 (i:Nat) (s:RS):RS:=(s.p1 i).pub i ((s.p1 i).ms.getD i zM)
def RS.one (i:Nat) (s:RS):RS:=(s.p2 i).height i ((s.p2 i).ms.getD i zM)
def RS.part (i:Nat) (s:RS):Nat→RS
  | 0=>s
  | 1=>s.p1 i
  | 2=>s.p2 i
  | _=>s.one i
def SInv (t:List UInt8) (n:Nat) (s:RS):Prop:=s.ms.length=n∧Pub s.ms∧s.rest=t.drop (t.length - s.rest.length)∧s.rest.length≤t.length
theorem drop_inv {t r:List UInt8} {k:Nat} (h:r=t.drop (t.length - r.length)) (hl:r.length≤t.length) (hk:k≤r.length):r.drop k=t.drop (t.length - (r.drop k).length)∧(r.drop k).length≤t.length:=by
  have h1:(r.drop k).length=r.length - k:=by simp
  rw [h1]
  refine ⟨?_,by omega⟩
  conv=>lhs;rw [h]
  rw [List.drop_drop]
  congr 1;omega
theorem pub_of {ms:List Mb} {i:Nat} (h:Pub ms):(ms.getD i zM).pub.length=16:=by
  rw [List.getD_eq_getElem?_getD]
  cases hq:ms[i]? with
  | none=>simp [zM]
  | some m=>exact h m (List.mem_of_getElem? hq)
theorem SInv.name {t:List UInt8} {n i:Nat} {s:RS} (h:SInv t n s):SInv t n (s.name i (s.ms.getD i zM)):=by
  obtain ⟨h1,h2,h3,h4⟩:=h
  unfold RS.name
  split
  · exact ⟨h1,h2,h3,h4⟩
  · split
    · exact ⟨h1,h2,h3,h4⟩
    · rcases hx:bytS s.rest with ⟨q,u,e⟩
      have hu:u≤s.rest.length:=by rcases byt_err hx with ⟨_,h,_⟩ | ⟨_,h⟩ <;> omega
      exact ⟨by simpa using h1,h2.set (pub_of h2),drop_inv h3 h4 hu⟩
theorem SInv.pub {t:List UInt8} {n i:Nat} {s:RS} (h:SInv t n s):SInv t n (s.pub i (s.ms.getD i zM)):=by
  obtain ⟨h1,h2,h3,h4⟩:=h
  unfold RS.pub
  split
  · exact ⟨h1,h2,h3,h4⟩
  · split
    · exact ⟨h1,h2,h3,h4⟩
    · exact ⟨by simpa using h1,h2.set (by simp;omega),drop_inv h3 h4 (by omega)⟩
theorem SInv.height {t:List UInt8} {n i:Nat} {s:RS} (h:SInv t n s):SInv t n (s.height i (s.ms.getD i zM)):=by
  obtain ⟨h1,h2,h3,h4⟩:=h
  unfold RS.height
  split
  · exact ⟨h1,h2,h3,h4⟩
  · split
    · exact ⟨h1,h2,h3,h4⟩
    · rcases hx:decS s.rest with ⟨q,u,e⟩
      have hu:u≤s.rest.length:=by rcases dec_err hx with ⟨_,_,h,_⟩ | ⟨_,_,h⟩ <;> omega
      exact ⟨by simpa using h1,h2.set (pub_of h2),drop_inv h3 h4 hu⟩
theorem SInv.part {t:List UInt8} {n i:Nat} {s:RS} (h:SInv t n s):∀ j,SInv t n (s.part i j)
  | 0=>h
  | 1=>h.name
  | 2=>(SInv.name h).pub
  | _+3=>(SInv.pub (SInv.name h)).height
end Go.Proofs.YtkfbkooobfepeaaGreatDoor

/- Clone and Replace of members. -/
namespace Go.Sx
open Go
end Go.Sx
namespace Go.Proofs.YtkfbkooobfepeaaGreatDoor
open Go Go.Sx Sf
set_option maxRecDepth 100000
set_option linter.unusedVariables false
variable {tS:List (Nat × List SV)}
end Go.Proofs.YtkfbkooobfepeaaGreatDoor

/- The sanity of the laws, carried out. -/
namespace Go.Proofs.YtkfbkooobfepeaaGreatDoor
open Go Go.Sx Sf
set_option maxRecDepth 100000
set_option linter.unusedVariables false
def tbL:List (FuncId × SF):=[(5,sf9),(13,sf10),(16,sf12),(19,sf14),(17,sf15),(18,sf16),(15,sf18),(20,sf20),(8,sf22),(6,sf24),(14,sf26),(12,sf28),(37,sf29),(45,sf30),(21,sf31),(22,sf32),(43,sf33),(44,sf34),(46,sf39),(30,sf41),(38,sf43),(39,sf44),(40,sf45),(41,sf46),(42,sf47),(47,sf51),(70,sf52),(71,sf53),(72,sf54),(53,sf57),(54,sf58),(55,sf59),(56,sf60),(57,sf61),(68,sf69),(69,sf70),(76,sf75),(77,sf76),(89,sf85)]
def tb:FuncId→Option SF:=lookF tbL
theorem tb_ok:TbOk Tryz.prog tb:=by
  intro f sf h
  have hm:=lookF_mem h
  simp only [tbL,List.mem_cons,Prod.mk.injEq,List.not_mem_nil,or_false] at hm
  rcases hm with ⟨rfl,rfl⟩ | ⟨rfl,rfl⟩ | ⟨rfl,rfl⟩ | ⟨rfl,rfl⟩ | ⟨rfl,rfl⟩ | ⟨rfl,rfl⟩ | ⟨rfl,rfl⟩ | ⟨rfl,rfl⟩ | ⟨rfl,rfl⟩ | ⟨rfl,rfl⟩ | ⟨rfl,rfl⟩ | ⟨rfl,rfl⟩ | ⟨rfl,rfl⟩ | ⟨rfl,rfl⟩ | ⟨rfl,rfl⟩ | ⟨rfl,rfl⟩ | ⟨rfl,rfl⟩ | ⟨rfl,rfl⟩ | ⟨rfl,rfl⟩ | ⟨rfl,rfl⟩ | ⟨rfl,rfl⟩ | ⟨rfl,rfl⟩ | ⟨rfl,rfl⟩ | ⟨rfl,rfl⟩ | ⟨rfl,rfl⟩ | ⟨rfl,rfl⟩ | ⟨rfl,rfl⟩ | ⟨rfl,rfl⟩ | ⟨rfl,rfl⟩ | ⟨rfl,rfl⟩ | ⟨rfl,rfl⟩ | ⟨rfl,rfl⟩ | ⟨rfl,rfl⟩ | ⟨rfl,rfl⟩ | ⟨rfl,rfl⟩ | ⟨rfl,rfl⟩ | ⟨rfl,rfl⟩ | ⟨rfl,rfl⟩ | ⟨rfl,rfl⟩
  · exact chk9
  · exact chk10
  · exact chk12
  · exact chk14
  · exact chk15
  · exact chk16
  · exact chk18
  · exact chk20
  · exact chk22
  · exact chk24
  · exact chk26
  · exact chk28
  · exact chk29
  · exact chk30
  · exact chk31
  · exact chk32
  · exact chk33
  · exact chk34
  · exact chk39
  · exact chk41
  · exact chk43
  · exact chk44
  · exact chk45
  · exact chk46
  · exact chk47
  · exact chk51
  · exact chk52
  · exact chk53
  · exact chk54
  · exact chk57
  · exact chk58
  · exact chk59
  · exact chk60
  · exact chk61
  · exact chk69
  · exact chk70
  · exact chk75
  · exact chk76
  · exact chk85
end Go.Proofs.YtkfbkooobfepeaaGreatDoor

/- The sanity of the laws: true. -/
namespace Go.Proofs.YtkfbkooobfepeaaGreatDoor
open Go Go.Sx Sf
set_option maxRecDepth 100000
theorem sane_run:runF tb tH (runS [(90,g73)]) 300 30 5 [] [] 0=some (.bool true,[],0):=by kernel_rfl
theorem sane_x:runS [(90,g73)] 5 [] [] 0=none:=rfl
theorem f9:Fun Tryz.prog tH 5 [] [] 0 (.bool true) [] 0:=
  fun_of_run tb_ok (runS_ok (fun x h=>by simp only [List.mem_singleton] at h;subst h;exact g73_ok)) sane_x sane_run
def gSane:GS
  | [],[]=>some (.bool true,[],0)
  | _,_=>none
theorem gSane_ok:FunS Tryz.prog tH 5 gSane:=by
  intro a0 m0 r m1 n1 h
  unfold gSane at h
  split at h
  · cases h;exact ⟨f9,by simp [freshB]⟩
  · cases h
end Go.Proofs.YtkfbkooobfepeaaGreatDoor

/- The law CustodianReplaced: it computes true. -/
namespace Go.Proofs.YtkfbkooobfepeaaGreatDoor
open Go Go.Sx Sf
set_option maxRecDepth 100000
set_option linter.unusedSimpArgs false
set_option linter.unusedVariables false
end Go.Proofs.YtkfbkooobfepeaaGreatDoor

/- The reference's Valid, and Same. -/
namespace Go.Proofs.YtkfbkooobfepeaaGreatDoor
open Go Go.Sx Sf
set_option maxRecDepth 100000
set_option linter.unusedVariables false
variable {tS:List (Nat × List SV)}
end Go.Proofs.YtkfbkooobfepeaaGreatDoor

/- Same of custodians. -/
namespace Go.Proofs.YtkfbkooobfepeaaGreatDoor
open Go Go.Sx Sf
set_option maxRecDepth 100000
set_option linter.unusedVariables false
variable {tS:List (Nat × List SV)}
instance decMb:DecidableEq Mb:=fun a b=>if h:eqM a b=true then isTrue (eqM_iff.1 h) else isFalse (fun h'=>h (eqM_iff.2 h'))
end Go.Proofs.YtkfbkooobfepeaaGreatDoor

/- Encode of package custodian. -/
namespace Go.Proofs.YtkfbkooobfepeaaGreatDoor
open Go Go.Sx Sf
set_option maxRecDepth 100000
set_option linter.unusedVariables false
variable {tS:List (Nat × List SV)}
end Go.Proofs.YtkfbkooobfepeaaGreatDoor

/- Decode of the reference. -/
namespace Go.Proofs.YtkfbkooobfepeaaGreatDoor
open Go Go.Sx Sf
set_option maxRecDepth 100000
set_option linter.unusedVariables false
variable {tS:List (Nat × List SV)}
end Go.Proofs.YtkfbkooobfepeaaGreatDoor

/- The plain law of Decode and Encode: the two Decodes are the same, and they undo Encode. -/
namespace Go.Proofs.YtkfbkooobfepeaaGreatDoor
open Go Go.Sx Sf
set_option maxRecDepth 100000
set_option linter.unusedSimpArgs false
set_option linter.unusedVariables false
end Go.Proofs.YtkfbkooobfepeaaGreatDoor

/- The round trip of Decode and Encode. -/
namespace Go.Proofs.YtkfbkooobfepeaaGreatDoor
open Go Go.Sx Sf
set_option maxRecDepth 100000
set_option linter.unusedVariables false
theorem cnt_enc {n:Nat} {q:List UInt8} (hn:n < 9223372036854775808) (hq:n≤q.length):decS (encI (n:Int)++q)=((n:Int),(encI (n:Int)).length,0)∧cntE (encI (n:Int)++q) 1=0:=by
  have hr:R64 (n:Int):=by unfold R64;omega
  have h1:=dec_enc hr q
  refine ⟨h1,?_⟩
  unfold cntE
  rw [h1]
  simp only [ne_eq,not_true_eq_false,if_false,List.length_append,Nat.div_one,Nat.add_sub_cancel_left]
  rw [if_neg (by omega),if_neg (by omega)]
theorem byt_enc {s q:List UInt8} (hs:s.length < 9223372036854775808):bytS (encS s++q)=(s,(encS s).length,0):=by
  have h:=cnt_enc (n:=s.length) (q:=s++q) hs (by simp)
  rw [← List.append_assoc] at h
  unfold bytS encS
  rw [h.1,h.2]
  simp only [ne_eq,not_true_eq_false,if_false,List.length_append,Int.toNat_natCast,List.append_assoc]
  rw [List.drop_left,List.take_left]
end Go.Proofs.YtkfbkooobfepeaaGreatDoor

/- A signature that the reference makes is accepted. -/
namespace Go.Proofs.YtkfbkooobfepeaaGreatDoor
open Go Go.Sx Sf
set_option maxRecDepth 100000
set_option linter.unusedVariables false
theorem adv_app (k:Nat):∀ (b a h:Nat) (v:List UInt8),advS k a (h+b) (advS k b h v)=advS k (b+a) h v
  | 0,a,h,v=>by rw [Nat.zero_add];rfl
  | b+1,a,h,v=>by
    rw [show b+1+a=(b+a)+1 by omega]
    simp only [advS]
    rw [show h+(b+1)=(h+1)+b by omega]
    exact adv_app k b a (h+1) _
theorem end_sgn (seed d:List UInt8) {k:Nat} (hk:k < 35):endS d (sgnS seed d) k=pubF seed k:=by
  unfold endS partS sgnS
  rw [catS_part hk (fun j _=>sgnF_len seed d j)]
  unfold sgnF pubF
  have ht:=(digT_get d hk).1
  have:=adv_app k (digT d k) (15 - digT d k) 0 (stS seed (k:Int))
  rw [Nat.zero_add] at this
  rw [this]
  congr 1
  omega
theorem rec_sgn (seed d:List UInt8):recS d (sgnS seed d)=pubS seed:=by
  unfold recS pubS endsS catS
  congr 2
  refine congrArg List.flatten (List.map_congr_left fun k hk=>?_)
  exact end_sgn seed d (by simpa using hk)
theorem prf_app {Y R:List UInt8} {h:Nat} (hY:Y.length=16 * h) (hR:R.length=16):prf (Y++R) h=R:=by
  unfold prf
  rw [List.drop_left' hY]
  exact List.take_of_length_le (by omega)
theorem prf_low {Y R:List UInt8} {h j:Nat} (hY:Y.length=16 * h) (hj:j < h):prf (Y++R) j=prf Y j:=by
  unfold prf
  rw [List.drop_append_of_le_length (by omega),List.take_append_of_le_length (by rw [List.length_drop];omega)]
theorem of_sh (tag:Int) (ps:List (List UInt8)):shS (ofM tag ps)=ofS tag ps:=rfl
theorem proof_root:∀ (h:Nat) (X:List UInt8) (i:Nat),X.length=16 * 2 ^ h→i < 2 ^ h→shS (inK i ((X.drop (16 * i)).take 16) (prfS h X i) h)=rootS h X
  | 0,X,i,hX,hi=>by
    obtain rfl:i=0:=by simpa using hi
    have hX:X.length=16:=hX
    simp only [Nat.mul_zero,List.drop_zero]
    rw [List.take_of_length_le (by omega)]
    rfl
  | h+1,X,i,hX,hi=>by
    have e2:2 ^ (h+1)=2 ^ h+2 ^ h:=by rw [Nat.pow_succ];omega
    rw [e2] at hX
    have x1:(X.take (16 * 2 ^ h)).length=16 * 2 ^ h:=by rw [List.length_take];omega
    have x2:(X.drop (16 * 2 ^ h)).length=16 * 2 ^ h:=by rw [List.length_drop];omega
    rw [show rootS (h+1) X=ofS 2 [rootS h (X.take (16 * 2 ^ h)),rootS h (X.drop (16 * 2 ^ h))] from rfl,
      show prfS (h+1) X i=(if i < 2 ^ h then prfS h (X.take (16 * 2 ^ h)) i++rootS h (X.drop (16 * 2 ^ h)) else prfS h (X.drop (16 * 2 ^ h)) (i - 2 ^ h)++rootS h (X.take (16 * 2 ^ h))) from rfl]
    simp only [inK]
    by_cases hik:i < 2 ^ h
    · rw [if_pos hik,bit_low hik]
      simp only [Bool.false_eq_true,if_false]
      have lp:=prfS_len h (X.take (16 * 2 ^ h)) i
      have lr:=rootS_len h (X.drop (16 * 2 ^ h))
      rw [prf_app lp lr,of_sh]
      have IH:=proof_root h (X.take (16 * 2 ^ h)) i x1 hik
      have ed:((X.take (16 * 2 ^ h)).drop (16 * i)).take 16=(X.drop (16 * i)).take 16:=by
        rw [List.drop_take,List.take_take,Nat.min_eq_left (by omega)]
      rw [ed] at IH
      rw [inK_congr (i':=i) (X':=prfS h (X.take (16 * 2 ^ h)) i) h (fun _ _=>rfl) (fun j hj=>prf_low lp hj),IH]
    · have hi2:i - 2 ^ h < 2 ^ h:=by omega
      rw [if_neg hik,bit_high (by omega) hi]
      simp only [if_true]
      have lp:=prfS_len h (X.drop (16 * 2 ^ h)) (i - 2 ^ h)
      have lr:=rootS_len h (X.take (16 * 2 ^ h))
      rw [prf_app lp lr,of_sh]
      have IH:=proof_root h (X.drop (16 * 2 ^ h)) (i - 2 ^ h) x2 hi2
      have ed:((X.drop (16 * 2 ^ h)).drop (16 * (i - 2 ^ h))).take 16=(X.drop (16 * i)).take 16:=by
        rw [List.drop_drop,← Nat.mul_add,show 2 ^ h+(i - 2 ^ h)=i by omega]
      rw [ed] at IH
      rw [inK_congr (i':=i - 2 ^ h) (X':=prfS h (X.drop (16 * 2 ^ h)) (i - 2 ^ h)) h (fun j hj=>(bit_rest (by omega) hj).symm) (fun j hj=>prf_low lp hj),IH]
theorem accepted (seed msg:List UInt8) (h i:Nat) (hh:h≤6) (hi:i < 2 ^ h) (hm:msg.length≤1048576) :
    verS (pubT seed h) (h:Int) msg (sigE (i:Int) (sgnS (leafS seed (i:Int)) (ofS 6 [pubT seed h,encI (i:Int),msg])) h (prfS h (lvsS seed h) i))=((i:Int),0):=by
  rw [verS_in hh hm]
  have n64:2 ^ h≤64:=by have:=(p2_le hh).1;unfold P2 at this;omega
  have lX:=lvsS_len seed h
  have lY:=prfS_len h (lvsS seed h) i
  have key:=proof_root h (lvsS seed h) i lX hi
  have hleaf:((lvsS seed h).drop (16 * i)).take 16=lfF seed i:=catS_part hi (fun k _=>lfF_len seed k)
  rw [hleaf] at key
  have hG:=sgnS_len (leafS seed (i:Int)) (ofS 6 [pubT seed h,encI (i:Int),msg])
  have hrec:=rec_sgn (leafS seed (i:Int)) (ofS 6 [pubT seed h,encI (i:Int),msg])
  rw [show pubS (leafS seed (i:Int))=lfF seed i from rfl] at hrec
  rw [show rootS h (lvsS seed h)=pubT seed h from rfl] at key
  generalize prfS h (lvsS seed h) i=Y at *
  generalize sgnS (leafS seed (i:Int)) (ofS 6 [pubT seed h,encI (i:Int),msg])=G at *
  have d1:=dec_enc (n:=(i:Int)) ⟨by omega,by omega⟩ (encS G++(encI (h:Int)++Y))
  have d2:=byt_enc (s:=G) (q:=encI (h:Int)++Y) (by omega)
  have d3:=dec_enc (n:=(h:Int)) ⟨by omega,by omega⟩ Y
  have hsg:sigE (i:Int) G h Y=encI (i:Int)++(encS G++(encI (h:Int)++Y)):=by unfold sigE;rw [List.append_assoc]
  have hc16:cntE (encI (h:Int)++Y) 16=0:=by
    unfold cntE
    rw [d3]
    simp only
    rw [if_neg (by simp),if_neg (by omega),if_neg]
    rw [List.length_append,lY,Nat.add_sub_cancel_left,Nat.mul_div_cancel_left _ (by decide)]
    omega
  have hN:dgsN (encI (h:Int)++Y)=h:=by unfold dgsN;rw [if_neg (by simpa using hc16),d3];simp
  have hU:dgsU (encI (h:Int)++Y)=(encI (h:Int)).length+16 * h:=by unfold dgsU;rw [if_neg (by simpa using hc16),d3];simp
  have hXx:dgsX (encI (h:Int)++Y)=Y:=by
    unfold dgsX
    rw [if_neg (by simpa using hc16),d3]
    simp only [List.drop_left,Int.toNat_natCast]
    exact List.take_of_length_le (by omega)
  have hg:sgOf (sigE (i:Int) G h Y)=⟨(i:Int),(encI (i:Int)).length,0,G,(encS G).length,0,h,(encI (h:Int)).length+16 * h,0,Y⟩:=by
    unfold sgOf
    rw [hsg,d1]
    simp only [List.drop_left]
    rw [d2]
    simp only
    rw [← List.drop_drop,List.drop_left,List.drop_left,hN,hU,hXx,hc16]
  rw [hg]
  simp only [Int.toNat_natCast]
  rw [if_neg (by simp),if_neg (by simp),if_neg (by simp),if_neg,if_neg (by omega),hrec,key]
  · simp
  · have hl:(sigE (i:Int) G h Y).length=(encI (i:Int)).length+(encS G).length+((encI (h:Int)).length+16 * h):=by
      rw [hsg];simp only [List.length_append,lY];omega
    unfold P2
    omega
end Go.Proofs.YtkfbkooobfepeaaGreatDoor

/- The law CustodianStatements: it computes true. -/
namespace Go.Proofs.YtkfbkooobfepeaaGreatDoor
open Go Go.Sx Sf
set_option maxRecDepth 100000
set_option linter.unusedSimpArgs false
set_option linter.unusedVariables false
def parts (d c:List UInt8) (e r v:Int):List SV:=bys d++(bys c++[.int .i64 e,.int .i64 r,.int .i64 v])
theorem parts_flat (d c:List UInt8) (e r v:Int):SV.flatL (parts d c e r v)=true:=by
  unfold parts
  refine SV.flatL_append (flat_bytes _) (SV.flatL_append (flat_bytes _) rfl)
theorem parts_facts {d c:List UInt8} (e r v:Int) (hd:d.length=16) (hc:c.length=16):(parts d c e r v).length=35∧List.take 16 (parts d c e r v)=bys d ∧
    List.take 16 (List.drop 16 (parts d c e r v))=bys c∧(parts d c e r v)[32]?=some (.int .i64 e)∧(parts d c e r v)[33]?=some (.int .i64 r)∧(parts d c e r v)[34]?=some (.int .i64 v)∧List.take 35 (parts d c e r v)=parts d c e r v:=by
  have h1:(bys d).length=16:=by rw [len_bytes,hd]
  have h2:(bys c).length=16:=by rw [len_bytes,hc]
  unfold parts
  refine ⟨by simp [h1,h2],List.take_left' h1,?_,?_,?_,?_,List.take_of_length_le (by simp [h1,h2])⟩
  · rw [List.drop_left' h1];exact List.take_left' h2
  · rw [List.getElem?_append_right (by omega),List.getElem?_append_right (by omega),h1,h2];rfl
  · rw [List.getElem?_append_right (by omega),List.getElem?_append_right (by omega),h1,h2];rfl
  · rw [List.getElem?_append_right (by omega),List.getElem?_append_right (by omega),h1,h2];rfl

end Go.Proofs.YtkfbkooobfepeaaGreatDoor

/- The check of a signature of a tree: the program's. -/
namespace Go.Proofs.YtkfbkooobfepeaaGreatDoor
open Go Go.Sx Sf
set_option maxRecDepth 100000
set_option linter.unusedVariables false
theorem bytC_err {b s:List UInt8} {u:Nat} {e:Int} (h:bytS b=(s,u,e)) (he:e≠0):dgsN b=0:=by
  refine gDgsz fun h16=>?_
  obtain ⟨n,w,hx,h1,h2,h3⟩:=cnt_ok h16
  have h4:n≤b.length - w:=Nat.le_trans h2 (Nat.div_le_self _ _)
  have h5:cntE b 1=0:=by
    unfold cntE
    rw [hx]
    simp only [Nat.div_one]
    rw [if_neg (by simp),if_neg (by omega),if_neg (by omega)]
  unfold bytS at h
  rw [if_neg (by simpa using h5)] at h
  simp only [Prod.mk.injEq] at h
  exact he h.2.2.symm
theorem cntC_err {b:List UInt8} (h:(decS b).2.2≠0):dgsN b=0:=gDgsz (by unfold cntE;rw [if_pos h];exact h)
def tabVp:List (FuncId × GS):=[(53,gHt),(55,gGetInt),(56,gGetBytes),(57,gDgs),(60,gVer)]
theorem tabVp_ok:∀ x ∈ tabVp,FunS Tryz.prog tH2 x.1 x.2:=by
  intro x hx
  simp only [tabVp,List.mem_cons,List.not_mem_nil,or_false] at hx
  rcases hx with rfl | rfl | rfl | rfl | rfl
  · exact gHt_ok
  · exact gGetInt_ok
  · exact gGetBytes_ok f60
  · exact gDgs61
  · exact gVer64
def tbVp:Tab:=⟨[(59,gDig6),(58,gRec)],[]⟩
theorem tbVp_ok:TabX Tryz.prog tH2 tbVp:=by
  refine ⟨fun x h args r hr=>?_,fun x h=>by simp [tbVp] at h⟩
  simp only [tbVp,List.mem_cons,List.not_mem_nil,or_false] at h
  rcases h with rfl | rfl
  · obtain ⟨h1,h2,h3⟩:=gDig6_of (f:=59) (fun p msg i h1 h2 _=>f63 p msg i h1 h2) args r hr
    exact ⟨h1,h2,fun η=>by simp only [SV.renL,h3]⟩
  · obtain ⟨h1,h2,h3⟩:=gRec62 args r hr
    exact ⟨h1,h2,fun η=>by simp only [SV.renL,h3]⟩
def cVp:CallT:=callAnd 54 (callT Tryz.prog tH2) (callAnd 76 (callT Tryz.prog tH2) (callAnd 77 (callT Tryz.prog tH2) (callS tabVp (callX tbVp))))
theorem cVp_ok:∀ f a m n K,cVp f a m n K→callT Tryz.prog tH2 f a m n K:=callAnd_ok (callAnd_ok (callAnd_ok (callS_ok tabVp_ok (callX_ok tbVp_ok))))
set_option maxHeartbeats 16000000 in
theorem f41 (p msg sig:List UInt8) (ht:Int) (hp:p.length=16) (hm:msg.length≤2 ^ 40) (hs:sig.length≤2 ^ 30) :
    Fun Tryz.prog tH2 30 [.agg (bys p),.int .i64 ht,.str msg,.str sig] [] 0 (verT p ht msg sig) [] 0:=by
  refine fun_pure none cVp cVp_ok chk41 (show 4≤129 by decide) (fun η=>by simp only [verT,SV.ren,SV.renL]) ?_
  unfold sf41 og oh om oq ov verT
  have lp:(bys p).length=16:=by rw [len_bytes,hp]
  have tp:=take16 hp
  have ls:(bys sig).length=sig.length:=len_bytes sig
  have ts:=take_bytes sig
  by_cases h12:ht < 0∨6 < ht
  · have hv:verS p ht msg sig=(0,1):=by unfold verS;rw [if_pos h12]
    have gh:gHt [.int .i64 ht] []=some (.bool false,[],0):=by
      have:(decide (0≤ht) && decide (ht≤6))=false:=by rcases h12 with h | h <;> simp <;> omega
      show some (SV.bool (decide (0≤ht) && decide (ht≤6)),([]:Mem),0)=_
      rw [this]
    simp (config:={ maxSteps:=1000000 }) only [cVp,tabVp,tbVp,↓gh,hv,reduceCtorEq,Nat.reduceEqDiff,Nat.reduceAdd,↓reduceIte,BC,↓PC]
  have gh:gHt [.int .i64 ht] []=some (.bool true,[],0):=by
    have:(decide (0≤ht) && decide (ht≤6))=true:=by simp;omega
    show some (SV.bool (decide (0≤ht) && decide (ht≤6)),([]:Mem),0)=_
    rw [this]
  by_cases h3:(msg.length:Int) > 1048576
  · have hv:verS p ht msg sig=(0,2):=by unfold verS;rw [if_neg h12,if_pos (by omega)]
    simp (config:={ maxSteps:=1000000 }) only [cVp,tabVp,tbVp,↓gh,h3,hv,reduceCtorEq,Nat.reduceEqDiff,Nat.reduceAdd,↓reduceIte,BC,↓PC]
  obtain ⟨h,rfl⟩:∃ h:Nat,ht=(h:Int):=⟨ht.toNat,by omega⟩
  have hh:h≤6:=by omega
  have hv:=verS_in (p:=p) (msg:=msg) (sig:=sig) hh (by omega)
  simp (config:={ maxSteps:=1000000 }) only [cVp,tabVp,tbVp,↓gh,h3,reduceCtorEq,Nat.reduceEqDiff,Nat.reduceAdd,↓reduceIte,BC,↓PC]
  refine ⟨[],_,_,_,_,_,f58 sig,rfl,trivial,trivial,trivial,by simp,⟨fun _=>rfl,fun _=>rfl,fun _=>rfl,trivial⟩,?_⟩
  simp (config:={ maxSteps:=1000000 }) only [Nat.reduceEqDiff,Nat.reduceAdd,↓reduceIte,BC,↓PC]
  refine call76 (e:=0) (o:=0) (l:=sig.length) rfl rfl (by decide) ?_
  rcases hx:decS sig with ⟨i,u1,e1⟩
  have hb40:sig.length≤2 ^ 40:=by omega
  have g1:gGetInt [.slc 0 0 1 sig.length none] [(0,⟨.view,bys sig⟩)]=some (tup3 (i,u1,e1),[],1):=by
    unfold gGetInt
    simp only [unB_bytes,capB,hb40,and_self,if_true,hx]
  simp only [sgOf,hx] at hv
  simp (config:={ maxSteps:=1000000 }) only [↓g1,ls,ts,tup3,reduceCtorEq,Nat.reduceEqDiff,Nat.reduceSub,Nat.reduceLT,↓reduceIte,BC,↓PC]
  rcases dec_err hx with ⟨rfl,hR,hu,_⟩ | ⟨he,rfl,rfl⟩
  case inr=>
    rw [if_pos he] at hv
    have he':(e1 != 0)=true:=by simpa using he
    have z3:dgsN sig=0:=cntC_err (by rw [hx];exact he)
    rcases hy:bytS sig with ⟨s,u2,e2⟩
    have g2:gGetBytes [.slc 0 0 1 sig.length none] [(0,⟨.view,bys sig⟩)]=some (tupB (s,u2,e2),[],1):=by
      unfold gGetBytes
      simp only [unB_bytes]
      rw [if_pos ⟨trivial,hb40⟩,hy]
    have g3:=gDgs_eq (b:=sig) (by omega)
    simp only [dgsR,nlS_z z3,nlM_z z3,nlN_z z3] at g3
    refine call75 (b:=sig) (o:=0) (e0:=0) (e1:=e1) rfl rfl rfl (by decide) (Nat.zero_le _) (Or.inr ⟨rfl,Or.inl ⟨rfl,he,rfl⟩⟩) ?_
    simp (config:={ maxSteps:=1000000 }) only [reduceCtorEq,Nat.reduceEqDiff,↓reduceIte,BC,↓PC]
    refine call76 (e:=e1) (o:=0) (l:=sig.length) rfl rfl (by decide) ?_
    simp (config:={ maxSteps:=1000000 }) only [ls,ts,tupB,↓g2,reduceCtorEq,Nat.reduceEqDiff,Nat.reduceSub,Nat.reduceLT,↓reduceIte,BC,↓PC]
    refine call75 (b:=sig) (o:=0) (e0:=e1) (e1:=e1) rfl rfl rfl (by decide) (Nat.zero_le _) (Or.inr ⟨rfl,Or.inr ⟨he,rfl⟩⟩) ?_
    simp (config:={ maxSteps:=1000000 }) only [reduceCtorEq,Nat.reduceEqDiff,↓reduceIte,BC,↓PC]
    refine call76 (e:=e1) (o:=0) (l:=sig.length) rfl rfl (by decide) ?_
    simp (config:={ maxSteps:=1000000 }) only [ls,ts,↓g3,reduceCtorEq,Nat.reduceEqDiff,Nat.reduceSub,Nat.reduceLT,↓reduceIte,BC,↓PC]
    refine call75 (b:=sig) (o:=0) (e0:=e1) (e1:=e1) rfl rfl rfl (by decide) (Nat.zero_le _) (Or.inr ⟨rfl,Or.inr ⟨he,rfl⟩⟩) ?_
    simp (config:={ maxSteps:=1000000 }) only [reduceCtorEq,Nat.reduceEqDiff,↓reduceIte,BC,↓PC]
    refine call76 (e:=e1) (o:=0) (l:=sig.length) rfl rfl (by decide) ?_
    simp (config:={ maxSteps:=1000000 }) only [he',hv,reduceCtorEq,Nat.reduceEqDiff,↓reduceIte,BC,↓PC]
  rw [if_neg (by simp)] at hv
  have lb1:sig.length - u1=(sig.drop u1).length:=by simp
  have tb1:=take_drop_bys sig u1
  have k1:u1+(sig.drop u1).length≤sig.length:=by simp;omega
  rcases hy:bytS (sig.drop u1) with ⟨s,u2,e2⟩
  have hb1:(sig.drop u1).length≤2 ^ 40:=by simp;omega
  have g2:gGetBytes [.slc 0 0 1 (sig.drop u1).length none] [(0,⟨.view,bys (sig.drop u1)⟩)]=some (tupB (s,u2,e2),[],1):=by
    unfold gGetBytes
    simp only [unB_bytes]
    rw [if_pos ⟨trivial,hb1⟩,hy]
  simp only [hy] at hv
  refine call75 (b:=sig) (o:=0) (e0:=0) (e1:=0) (D:=.slc 3 u1 1 (sig.drop u1).length none) rfl rfl rfl (by decide) (Nat.zero_le _) (Or.inl ⟨rfl,rfl,u1,rfl,by simpa using hu,by rw [Nat.zero_add],rfl⟩) ?_
  simp (config:={ maxSteps:=1000000 }) only [reduceCtorEq,Nat.reduceEqDiff,↓reduceIte,BC,↓PC]
  refine call76 (e:=0) (o:=u1) (l:=(sig.drop u1).length) rfl rfl (by decide) ?_
  simp (config:={ maxSteps:=1000000 }) only [ls,tupB,k1,tb1,↓g2,reduceCtorEq,Nat.reduceEqDiff,Nat.reduceSub,Nat.reduceLT,↓reduceIte,BC,↓PC]
  by_cases he2:e2=0
  case neg=>
    rw [if_pos he2] at hv
    have he':(e2 != 0)=true:=by simpa using he2
    have z3:=bytC_err hy he2
    have g3:=gDgs_eq (b:=sig.drop u1) (by simp;omega)
    simp only [dgsR,nlS_z z3,nlM_z z3,nlN_z z3] at g3
    refine call75 (b:=sig) (o:=u1) (e0:=0) (e1:=e2) rfl rfl rfl (by decide) hu (Or.inr ⟨rfl,Or.inl ⟨rfl,he2,rfl⟩⟩) ?_
    simp (config:={ maxSteps:=1000000 }) only [reduceCtorEq,Nat.reduceEqDiff,↓reduceIte,BC,↓PC]
    refine call76 (e:=e2) (o:=u1) (l:=(sig.drop u1).length) rfl rfl (by decide) ?_
    simp (config:={ maxSteps:=1000000 }) only [ls,↓g3,k1,tb1,reduceCtorEq,Nat.reduceEqDiff,Nat.reduceSub,Nat.reduceLT,↓reduceIte,BC,↓PC]
    refine call75 (b:=sig) (o:=u1) (e0:=e2) (e1:=e2) rfl rfl rfl (by decide) hu (Or.inr ⟨rfl,Or.inr ⟨he2,rfl⟩⟩) ?_
    simp (config:={ maxSteps:=1000000 }) only [reduceCtorEq,Nat.reduceEqDiff,↓reduceIte,BC,↓PC]
    refine call76 (e:=e2) (o:=u1) (l:=(sig.drop u1).length) rfl rfl (by decide) ?_
    simp (config:={ maxSteps:=1000000 }) only [he',hv,reduceCtorEq,Nat.reduceEqDiff,↓reduceIte,BC,↓PC]
  subst he2
  rw [if_neg (by simp)] at hv
  have hu2:=byt_ok hy
  have hu12:u1+u2≤sig.length:=by simp at hu2;omega
  have tb2:=take_drop_bys sig (u1+u2)
  have k2:u1+u2+(sig.drop (u1+u2)).length≤sig.length:=by simp;omega
  have g3:=gDgs_eq (b:=sig.drop (u1+u2)) (by simp;omega)
  refine call75 (b:=sig) (o:=u1) (e0:=0) (e1:=0) (D:=.slc 3 (u1+u2) 1 (sig.drop (u1+u2)).length none) rfl rfl rfl (by decide) hu (Or.inl ⟨rfl,rfl,u2,rfl,hu2,rfl,rfl⟩) ?_
  simp (config:={ maxSteps:=1000000 }) only [reduceCtorEq,Nat.reduceEqDiff,↓reduceIte,BC,↓PC]
  refine call76 (e:=0) (o:=(u1+u2)) (l:=(sig.drop (u1+u2)).length) rfl rfl (by decide) ?_
  by_cases he3:cntE (sig.drop (u1+u2)) 16=0
  case neg=>
    rw [if_pos he3] at hv
    have he':(cntE (sig.drop (u1+u2)) 16 != 0)=true:=by simpa using he3
    have z3:=gDgsz he3
    simp only [dgsR,nlS_z z3,nlM_z z3,nlN_z z3] at g3
    simp (config:={ maxSteps:=1000000 }) only [ls,k2,tb2,↓g3,reduceCtorEq,Nat.reduceEqDiff,Nat.reduceSub,Nat.reduceLT,↓reduceIte,BC,↓PC]
    refine call75 (b:=sig) (o:=(u1+u2)) (e0:=0) (e1:=(cntE (sig.drop (u1+u2)) 16)) rfl rfl rfl (by decide) hu12 (Or.inr ⟨rfl,Or.inl ⟨rfl,he3,rfl⟩⟩) ?_
    simp (config:={ maxSteps:=1000000 }) only [reduceCtorEq,Nat.reduceEqDiff,↓reduceIte,BC,↓PC]
    refine call76 (e:=(cntE (sig.drop (u1+u2)) 16)) (o:=(u1+u2)) (l:=(sig.drop (u1+u2)).length) rfl rfl (by decide) ?_
    simp (config:={ maxSteps:=1000000 }) only [he',hv,reduceCtorEq,Nat.reduceEqDiff,↓reduceIte,BC,↓PC]
  rw [if_neg (by simpa using he3)] at hv
  obtain ⟨hu3,hxl⟩:=dgs_ok he3
  simp only [dgsR,he3] at g3
  generalize dgsX (sig.drop (u1+u2))=X at *
  generalize dgsU (sig.drop (u1+u2))=u3 at *
  generalize dgsN (sig.drop (u1+u2))=n at *
  have hu123:u1+u2+u3≤sig.length:=by simp at hu3;omega
  have h0h:(0:Int)≤(h:Int):=by omega
  have hc:(u1+u2+u3≠sig.length∨i < 0∨i ≥ P2 h∨(n:Int)≠(h:Int))∨(u1+u2+u3=sig.length∧0≤i∧i < P2 h∧n=h):=by omega
  have hsh:=p2_shl hh
  have e64:=p2_le hh
  rcases Nat.eq_zero_or_pos n with hn | hn
  · simp only [nlS_z hn,nlM_z hn,nlN_z hn] at g3
    simp (config:={ maxSteps:=1000000 }) only [ls,k2,tb2,↓g3,reduceCtorEq,Nat.reduceEqDiff,Nat.reduceSub,Nat.reduceLT,↓reduceIte,BC,↓PC]
    refine call75 (b:=sig) (o:=(u1+u2)) (e0:=0) (e1:=0) (D:=.slc 3 (u1+u2+u3) 1 (sig.drop (u1+u2+u3)).length none) rfl rfl rfl (by decide) hu12 (Or.inl ⟨rfl,rfl,u3,rfl,hu3,rfl,rfl⟩) ?_
    simp (config:={ maxSteps:=1000000 }) only [reduceCtorEq,Nat.reduceEqDiff,↓reduceIte,BC,↓PC]
    refine call76 (e:=0) (o:=(u1+u2+u3)) (l:=(sig.drop (u1+u2+u3)).length) rfl rfl (by decide) ?_
    by_cases c1:u1+u2+u3=sig.length
    case neg=>
      rw [if_pos (Or.inl c1)] at hv
      have q1:((sig.drop (u1+u2+u3)).length:Int) > 0:=by simp;omega
      simp (config:={ maxSteps:=1000000 }) only [q1,hv,undef,Int.reduceBNe,reduceCtorEq,Nat.reduceEqDiff,↓reduceIte,BC,↓PC]
    have q1:¬ ((sig.drop (u1+u2+u3)).length:Int) > 0:=by simp;omega
    by_cases c2:i < 0
    case pos=>
      rw [if_pos (Or.inr (Or.inl c2))] at hv
      simp (config:={ maxSteps:=1000000 }) only [q1,c2,hv,undef,Int.reduceBNe,reduceCtorEq,Nat.reduceEqDiff,↓reduceIte,BC,↓PC]
    by_cases c3:i ≥ P2 h
    case pos=>
      rw [if_pos (Or.inr (Or.inr (Or.inl c3)))] at hv
      simp (config:={ maxSteps:=1000000 }) only [q1,c2,c3,h0h,hsh,hv,undef,Int.reduceBNe,reduceCtorEq,Nat.reduceEqDiff,↓reduceIte,BC,↓PC]
    by_cases c4:n=h
    case neg=>
      rw [if_pos (by omega)] at hv
      have q2:((0:Int) != (h:Int))=true:=by simp;omega
      simp (config:={ maxSteps:=1000000 }) only [q1,q2,c2,c3,h0h,hsh,hv,Int.reduceBNe,reduceCtorEq,Nat.reduceEqDiff,↓reduceIte,BC,↓PC]
    subst c4
    rw [if_neg (by omega)] at hv
    obtain ⟨k,rfl⟩:∃ k:Nat,i=(k:Int):=⟨i.toNat,by omega⟩
    have kn:k < 2 ^ n:=by have c9:((k:Nat):Int) < ((2 ^ n:Nat):Int):=Int.not_le.1 c3;exact_mod_cast c9
    have gd:=gDig6_eq (p:=p) (msg:=msg) (i:=(k:Int)) hp (by omega) hR.1 hR.2
    have hD:=ofS_len 6 [p,encI (k:Int),msg]
    rw [Int.toNat_natCast] at hv
    generalize ofS 6 [p,encI (k:Int),msg]=D at *
    have lD:(bys D).length=16:=by rw [len_bytes,hD]
    have tD:=take16 hD
    have q2:((0:Int) != (n:Int))=false:=by simp;omega
    by_cases h560:s.length=560
    case neg=>
      rw [if_pos h560] at hv
      have gr:=gRec_no hD h560
      have z16l:zero16.length=16:=by decide
      simp (config:={ maxSteps:=1000000 }) only [q1,q2,c2,c3,h0h,hsh,lp,tp,↓gd,↓gr,z16l,hv,undef,Int.reduceBNe,reduceCtorEq,Nat.reduceEqDiff,Nat.reduceAdd,↓reduceIte,upd,splice,BC,↓PC]
    rw [if_neg (by omega)] at hv
    have gr:=gRec_yes hD h560
    have hL:(recS D s).length=16:=ofS_len _ _
    generalize recS D s=L at *
    have lL:(bys L).length=16:=by rw [len_bytes,hL]
    have tL:=take16 hL
    subst hn
    obtain rfl:k=0:=by simpa using kn
    have gv:=gVer_z (d:=L) hp hL
    have hi0:inK 0 L X 0=ofM 1 [L]:=rfl
    rw [hi0] at hv
    have hsh0:IntKind.i64.wrap (1 * 2 ^ (min 0 IntKind.i64.bits))=P2 0:=by decide
    have c30:¬ (0:Int) ≥ P2 0:=by decide
    have n0:((0:Nat):Int)=0:=rfl
    rw [n0] at hv gd
    generalize hB:(shS (ofM 1 [L]) == p)=B at *
    cases B
    · simp only [Bool.false_eq_true,if_false] at hv
      simp (config:={ maxSteps:=1000000 }) only [q1,hsh0,c30,lp,tp,↓gd,↓gr,↓gv,lL,tL,n0,hv,Int.reduceBNe,reduceCtorEq,Nat.reduceEqDiff,Nat.reduceAdd,Int.reduceToNat,Int.reduceLT,Int.reduceLE,↓reduceIte,upd,splice,BC,↓PC]
    · simp only [if_true] at hv
      simp (config:={ maxSteps:=1000000 }) only [q1,hsh0,c30,lp,tp,↓gd,↓gr,↓gv,lL,tL,n0,hv,Int.reduceBNe,reduceCtorEq,Nat.reduceEqDiff,Nat.reduceAdd,Int.reduceToNat,Int.reduceLT,Int.reduceLE,↓reduceIte,upd,splice,BC,↓PC]
  · simp only [nlS_p hn,nlM_p hn,nlN_p hn] at g3
    simp (config:={ maxSteps:=1000000 }) only [ls,k2,tb2,↓g3,reduceCtorEq,Nat.reduceEqDiff,Nat.reduceAdd,Nat.reduceSub,Nat.reduceLT,↓reduceIte,BC,↓PC]
    refine call75 (b:=sig) (o:=(u1+u2)) (e0:=0) (e1:=0) (D:=.slc 3 (u1+u2+u3) 1 (sig.drop (u1+u2+u3)).length none) rfl rfl rfl (by decide) hu12 (Or.inl ⟨rfl,rfl,u3,rfl,hu3,rfl,rfl⟩) ?_
    simp (config:={ maxSteps:=1000000 }) only [reduceCtorEq,Nat.reduceEqDiff,↓reduceIte,BC,↓PC]
    refine call76 (e:=0) (o:=(u1+u2+u3)) (l:=(sig.drop (u1+u2+u3)).length) rfl rfl (by decide) ?_
    by_cases c1:u1+u2+u3=sig.length
    case neg=>
      rw [if_pos (Or.inl c1)] at hv
      have q1:((sig.drop (u1+u2+u3)).length:Int) > 0:=by simp;omega
      simp (config:={ maxSteps:=1000000 }) only [q1,hv,undef,Int.reduceBNe,reduceCtorEq,Nat.reduceEqDiff,↓reduceIte,BC,↓PC]
    have q1:¬ ((sig.drop (u1+u2+u3)).length:Int) > 0:=by simp;omega
    by_cases c2:i < 0
    case pos=>
      rw [if_pos (Or.inr (Or.inl c2))] at hv
      simp (config:={ maxSteps:=1000000 }) only [q1,c2,hv,undef,Int.reduceBNe,reduceCtorEq,Nat.reduceEqDiff,↓reduceIte,BC,↓PC]
    by_cases c3:i ≥ P2 h
    case pos=>
      rw [if_pos (Or.inr (Or.inr (Or.inl c3)))] at hv
      simp (config:={ maxSteps:=1000000 }) only [q1,c2,c3,h0h,hsh,hv,undef,Int.reduceBNe,reduceCtorEq,Nat.reduceEqDiff,↓reduceIte,BC,↓PC]
    by_cases c4:n=h
    case neg=>
      rw [if_pos (by omega)] at hv
      have q2:((n:Int) != (h:Int))=true:=by simp;omega
      simp (config:={ maxSteps:=1000000 }) only [q1,q2,c2,c3,h0h,hsh,hv,Int.reduceBNe,reduceCtorEq,Nat.reduceEqDiff,↓reduceIte,BC,↓PC]
    subst c4
    rw [if_neg (by omega)] at hv
    obtain ⟨k,rfl⟩:∃ k:Nat,i=(k:Int):=⟨i.toNat,by omega⟩
    have kn:k < 2 ^ n:=by have c9:((k:Nat):Int) < ((2 ^ n:Nat):Int):=Int.not_le.1 c3;exact_mod_cast c9
    have gd:=gDig6_eq (p:=p) (msg:=msg) (i:=(k:Int)) hp (by omega) hR.1 hR.2
    have hD:=ofS_len 6 [p,encI (k:Int),msg]
    rw [Int.toNat_natCast] at hv
    generalize ofS 6 [p,encI (k:Int),msg]=D at *
    have lD:(bys D).length=16:=by rw [len_bytes,hD]
    have tD:=take16 hD
    have q2:((n:Int) != (n:Int))=false:=by simp
    by_cases h560:s.length=560
    case neg=>
      rw [if_pos h560] at hv
      have gr:=gRec_no hD h560
      have z16l:zero16.length=16:=by decide
      simp (config:={ maxSteps:=1000000 }) only [q1,q2,c2,c3,h0h,hsh,lp,tp,↓gd,↓gr,z16l,hv,undef,Int.reduceBNe,reduceCtorEq,Nat.reduceEqDiff,Nat.reduceAdd,↓reduceIte,upd,splice,BC,↓PC]
    rw [if_neg (by omega)] at hv
    have gr:=gRec_yes hD h560
    have hL:(recS D s).length=16:=ofS_len _ _
    generalize recS D s=L at *
    have lL:(bys L).length=16:=by rw [len_bytes,hL]
    have tL:=take16 hL
    have gv:=gVer_eq (d:=L) hp hh hn kn hL hxl
    have lX:(bys X).length=16 * n:=by rw [len_bytes,hxl]
    have tX:List.take (16 * n) (bys X)=bys X:=List.take_of_length_le (by omega)
    have tX2:List.take (n * 16) (bys X)=bys X:=List.take_of_length_le (by omega)
    have b16:n * 16≤16 * n:=by omega
    generalize hB:(shS (inK k L X n) == p)=B at *
    cases B
    · simp only [Bool.false_eq_true,if_false] at hv
      simp (config:={ maxSteps:=1000000 }) only [q1,q2,hsh,c2,c3,h0h,lp,tp,↓gd,↓gr,↓gv,lL,tL,lX,tX2,b16,hv,Int.reduceBNe,reduceCtorEq,Nat.reduceEqDiff,Nat.reduceAdd,Nat.reduceSub,Nat.reduceLT,↓reduceIte,upd,splice,BC,↓PC]
    · simp only [if_true] at hv
      simp (config:={ maxSteps:=1000000 }) only [q1,q2,hsh,c2,c3,h0h,lp,tp,↓gd,↓gr,↓gv,lL,tL,lX,tX2,b16,hv,Int.reduceBNe,reduceCtorEq,Nat.reduceEqDiff,Nat.reduceAdd,Nat.reduceSub,Nat.reduceLT,↓reduceIte,upd,splice,BC,↓PC]
end Go.Proofs.YtkfbkooobfepeaaGreatDoor

/- The law CustodianDecode: it computes true. -/
namespace Go.Proofs.YtkfbkooobfepeaaGreatDoor
open Go Go.Sx Sf
set_option maxRecDepth 100000
set_option linter.unusedVariables false
variable {tS:List (Nat × List SV)}
end Go.Proofs.YtkfbkooobfepeaaGreatDoor

/- The law CustodianChecksAsSpecified: it computes true. -/
namespace Go.Proofs.YtkfbkooobfepeaaGreatDoor
open Go Go.Sx Sf
set_option maxRecDepth 100000
set_option linter.unusedVariables false
section
variable {T:List (Nat × List SV)} {call:CallT} {fr0:Fr} {m0:Mem} {r:List Opr} {done:List Dn} {n:Nat} {K:List Dn→Nat→Prop} {d:Option Nat} {op:SOp} {ks p h:List Nat} {g:Nat} {b:Bool}
end
def chkS (l:List Mb) (i:Int) (msg sig:List UInt8):Int × Int:=
  if i < 0 then (0,11) else match l[i.toNat]? with
    | some m=>verS m.pub m.h msg sig
    | none=>(0,11)
def chkT (l:List Mb) (i:Int) (msg sig:List UInt8):SV:=.tup [.int .i64 (chkS l i msg sig).1,.int .i64 (chkS l i msg sig).2]
theorem chk_neg {l:List Mb} {i:Int} {msg sig:List UInt8} (h:i < 0):chkS l i msg sig=(0,11):=by unfold chkS;rw [if_pos h]
theorem chk_big {l:List Mb} {i:Int} {msg sig:List UInt8} (h0:¬ i < 0) (h:i ≥ (l.length:Int)):chkS l i msg sig=(0,11):=by
  unfold chkS
  rw [if_neg h0,List.getElem?_eq_none (by omega)]
theorem chk_at {l:List Mb} {k:Nat} {m:Mb} {msg sig:List UInt8} (h:l[k]?=some m):chkS l (k:Int) msg sig=verS m.pub m.h msg sig:=by
  unfold chkS
  rw [if_neg (by omega),Int.toNat_natCast,h]
def gOne:List SV→Option SV
  | [.agg cells,.int .i64 h,.str msg,.str sig]=>match unB cells with
    | some p=>if p.length=16∧msg.length≤2 ^ 40∧sig.length≤2 ^ 30 then some (verT p h msg sig) else none
    | none=>none
  | _=>none
theorem gOne_eq {p msg sig:List UInt8} {h:Int} (hp:p.length=16) (hm:msg.length≤2 ^ 40) (hs:sig.length≤2 ^ 30):gOne [.agg (bys p),.int .i64 h,.str msg,.str sig]=some (verT p h msg sig):=by
  unfold gOne
  simp only [unB_bytes]
  rw [if_pos ⟨hp,hm,hs⟩]
theorem gOne_of {f:FuncId} (H:∀ (p msg sig:List UInt8) (h:Int),p.length=16→msg.length≤2 ^ 40→sig.length≤2 ^ 30→Fun Tryz.prog tH2 f [.agg (bys p),.int .i64 h,.str msg,.str sig] [] 0 (verT p h msg sig) [] 0) :
    TabX Tryz.prog tH2 ⟨[(f,gOne)],[]⟩:=by
  refine ⟨fun x h args r hr=>?_,fun x h=>by simp at h⟩
  simp only [List.mem_cons,List.not_mem_nil,or_false] at h
  subst h
  simp only at hr
  unfold gOne at hr
  split at hr
  · split at hr
    · rename_i p hp
      split at hr
      · rename_i hc
        cases hr
        rw [unB_some hp]
        exact ⟨H p _ _ _ hc.1 hc.2.1 hc.2.2,fun η=>by simp only [SV.renL,SV.ren,ren_bytes],fun η=>by simp only [verT,SV.renL,SV.ren]⟩
      · cases hr
    · cases hr
  · cases hr
def cO (f:FuncId):CallT:=callX ⟨[(f,gOne)],[]⟩
theorem cO41:∀ f a m n K,cO 30 f a m n K→callT Tryz.prog tH2 f a m n K:=callX_ok (gOne_of f41)
theorem cO42:∀ f a m n K,cO 31 f a m n K→callT Tryz.prog tH2 f a m n K:=callX_ok (gOne_of f42)
set_option maxHeartbeats 8000000 in
theorem f22 (e n i:Int) (l:List Mb) (msg sig:List UInt8) (hP:Pub l) (hl:l.length≤1000) (hm:msg.length≤2 ^ 40) (hs:sig.length≤2 ^ 30) :
    Fun Tryz.prog tH2 8 [.agg [.int .i64 e,.int .i64 n,.slc 0 0 18 l.length none],.int .i64 i,.str msg,.str sig] [(0,⟨.view,mcs l⟩)] 1 (chkT l i msg sig) [] 1:=by
  refine fun_val none (cO 30) cO41 chk22 (show 4≤34 by decide) (fun η=>by simp only [chkT,SV.ren,SV.renL]) ?_
  unfold sf22 og om oq ov chkT
  have hlen:=len_mcs hP
  by_cases h1:i < 0
  · rw [chk_neg h1]
    simp (config:={ maxSteps:=1000000 }) only [cO,h1,undef,reduceCtorEq,Nat.reduceEqDiff,Nat.reduceAdd,↓reduceIte,BC,↓PC]
  by_cases h2:i ≥ (l.length:Int)
  · rw [chk_big h1 h2]
    simp (config:={ maxSteps:=1000000 }) only [cO,h1,h2,reduceCtorEq,Nat.reduceEqDiff,Nat.reduceAdd,↓reduceIte,BC,↓PC]
  obtain ⟨k,rfl⟩:∃ k:Nat,i=(k:Int):=⟨i.toNat,by omega⟩
  have hk:k < l.length:=by omega
  obtain ⟨m,hm'⟩:∃ m,l[k]?=some m:=⟨_,List.getElem?_eq_getElem hk⟩
  rw [chk_at hm']
  have h16:=hP m (List.mem_of_getElem? hm')
  have tr:=take_row hP hm'
  have m17:=mb17 h16
  have mp:=mbpub h16
  have msl:=Mb.sv_len h16
  have go:=gOne_eq (h:=m.h) h16 hm hs
  have q0:(0:Int)≤(k:Int):=by omega
  have q1:(k:Int) < (l.length:Int):=by omega
  have q2:k * 18+18≤l.length * 18:=by omega
  have q3:k * 18 < l.length * 18:=by omega
  have lp:(bys m.pub).length=16:=by rw [len_bytes,h16]
  have tp:=take16 h16
  simp (config:={ maxSteps:=1000000 }) only [cO,h1,h2,hlen,tr,m17,mp,msl,↓go,verT,q0,q1,q2,q3,reduceCtorEq,Nat.reduceEqDiff,Nat.reduceAdd,Nat.reduceLeDiff,↓reduceIte,upd,splice,BC,↓PC]
set_option maxHeartbeats 8000000 in
theorem f23 (e n i:Int) (l:List Mb) (msg sig:List UInt8) (hP:Pub l) (hl:l.length≤1000) (hm:msg.length≤2 ^ 40) (hs:sig.length≤2 ^ 30) :
    Fun Tryz.prog tH2 9 [.agg [.int .i64 e,.int .i64 n,.slc 0 0 18 l.length none],.int .i64 i,.str msg,.str sig] [(0,⟨.view,mcs l⟩)] 1 (chkT l i msg sig) [] 1:=by
  refine fun_val none (cO 31) cO42 chk23 (show 4≤36 by decide) (fun η=>by simp only [chkT,SV.ren,SV.renL]) ?_
  unfold sf23 og oh om oq chkT
  have hlen:=len_mcs hP
  by_cases h1:i < 0
  · rw [chk_neg h1]
    simp (config:={ maxSteps:=1000000 }) only [cO,h1,undef,reduceCtorEq,Nat.reduceEqDiff,Nat.reduceAdd,↓reduceIte,BC,↓PC]
  by_cases h2:i ≥ (l.length:Int)
  · rw [chk_big h1 h2]
    simp (config:={ maxSteps:=1000000 }) only [cO,h1,h2,reduceCtorEq,Nat.reduceEqDiff,Nat.reduceAdd,↓reduceIte,BC,↓PC]
  obtain ⟨k,rfl⟩:∃ k:Nat,i=(k:Int):=⟨i.toNat,by omega⟩
  have hk:k < l.length:=by omega
  obtain ⟨m,hm'⟩:∃ m,l[k]?=some m:=⟨_,List.getElem?_eq_getElem hk⟩
  rw [chk_at hm']
  have h16:=hP m (List.mem_of_getElem? hm')
  have go:=gOne_eq (h:=m.h) h16 hm hs
  have q0:(0:Int)≤(k:Int):=by omega
  have q1:(k:Int) < (l.length:Int):=by omega
  have q2:k * 18+1+16≤l.length * 18:=by omega
  have q3:k * 18+17 < l.length * 18:=by omega
  have q4:k * 18 < l.length * 18:=by omega
  have lp:(bys m.pub).length=16:=by rw [len_bytes,h16]
  have tp:=take16 h16
  have gh:(mcs l)[k * 18+17]?=some (.int .i64 m.h):=by rw [cell_row hP hm' (k:=17) (by decide)];exact mb17 h16
  have gp:List.take 16 (List.drop (k * 18+1) (mcs l))=bys m.pub:=by
    have:=take_row hP hm'
    have h2:=mbpub h16
    rw [← this,List.drop_take,List.take_take,List.drop_drop] at h2
    rw [← h2]
    congr 1
  simp (config:={ maxSteps:=1000000 }) only [cO,h1,h2,hlen,gh,gp,↓go,verT,q0,q1,q2,q4,reduceCtorEq,Nat.reduceEqDiff,Nat.reduceAdd,↓reduceIte,BC,↓PC]
def gChk:GS
  | [.agg [.int .i64 e,.int .i64 n,.slc 0 0 18 len none],.int .i64 i,.str msg,.str sig],[(0,⟨.view,cells⟩)]=>match unM cells.length cells with
    | some l=>if len=l.length∧l.length≤1000∧msg.length≤2 ^ 40∧sig.length≤2 ^ 30 then some (chkT l i msg sig,[],1) else none
    | none=>none
  | _,_=>none
theorem gChk_eq {e n i:Int} {l:List Mb} {msg sig:List UInt8} (hP:Pub l) (hl:l.length≤1000) (hm:msg.length≤2 ^ 40) (hs:sig.length≤2 ^ 30) :
    gChk [.agg [.int .i64 e,.int .i64 n,.slc 0 0 18 l.length none],.int .i64 i,.str msg,.str sig] [(0,⟨.view,mcs l⟩)]=some (chkT l i msg sig,[],1):=by
  unfold gChk
  simp only [unM_mcs hP (show l.length≤(mcs l).length by rw [len_mcs hP];omega)]
  rw [if_pos ⟨trivial,hl,hm,hs⟩]
theorem gChk_of {f:FuncId} (H:∀ (e n i:Int) (l:List Mb) (msg sig:List UInt8),Pub l→l.length≤1000→msg.length≤2 ^ 40→sig.length≤2 ^ 30 →
    Fun Tryz.prog tH2 f [.agg [.int .i64 e,.int .i64 n,.slc 0 0 18 l.length none],.int .i64 i,.str msg,.str sig] [(0,⟨.view,mcs l⟩)] 1 (chkT l i msg sig) [] 1):FunS Tryz.prog tH2 f gChk:=by
  intro a0 m0 r m1 n1 h
  unfold gChk at h
  split at h
  · split at h
    · rename_i l hl
      split at h
      · rename_i hc
        cases h
        obtain ⟨rfl,c2,c3,c4⟩:=hc
        obtain ⟨rfl,hP⟩:=unM_some hl
        exact ⟨H _ _ _ l _ _ hP c2 c3 c4,by simp [freshB]⟩
      · cases h
    · cases h
  · cases h
end Go.Proofs.YtkfbkooobfepeaaGreatDoor

/- The law CustodianApproves: it computes true. -/
namespace Go.Proofs.YtkfbkooobfepeaaGreatDoor
open Go Go.Sx Sf
set_option maxRecDepth 100000
set_option linter.unusedVariables false
def gSig (SG:List UInt8→Nat→Nat→List UInt8→List UInt8):List SV→Option SV
  | [.str seed,.int .i64 ht,.int .i64 i,.str msg]=>if seed.length=32∧0≤ht∧ht≤6∧msg.length≤1048576 then (match decide (0≤i∧i < ((2 ^ ht.toNat:Nat):Int)) with
    | true=>some (.tup [.str (SG seed ht.toNat i.toNat msg),.int .i64 0])
    | false=>some (.tup [.str [],.int .i64 22])) else none
  | _=>none
def sigF (seed:List UInt8) (h i:Nat) (msg:List UInt8):List UInt8:=sigE (i:Int) (sgnS (leafS seed (i:Int)) (ofS 6 [pubT seed h,encI (i:Int),msg])) h (prfS h (lvsS seed h) i)
theorem f207 (seed:List UInt8) (h i:Nat) (msg:List UInt8) (hs:seed.length=32) (hh:h≤6) (hi:i < 2 ^ h) (hm:msg.length≤1048576) :
    Fun Tryz.prog tH2 7 [.str seed,.int .i64 (h:Int),.int .i64 (i:Int),.str msg] [] 0 (.tup [.str (sigF seed h i msg),.int .i64 0]) [] 0:=by
  have n64:2 ^ h≤64:=by have:=(p2_le hh).1;unfold P2 at this;omega
  exact f207p lvsS lvs_ok pubT pub_ok seed msg h i hs hh hi hm (leafS seed (i:Int)) (ofS 6 [pubT seed h,encI (i:Int),msg]) _ (pubT_len _ _) (gSeed_eq (by omega) (by omega))
    (gDig6_eq (pubT_len _ _) (by omega) (by omega) (by omega)) (ofS_len _ _) (gSgn_eq (by rw [leafS_len];decide) (ofS_len _ _)) (sgnS_len _ _)
def SigOk (SG:List UInt8→Nat→Nat→List UInt8→List UInt8):Prop:=∀ (seed:List UInt8) (h i:Nat) (msg:List UInt8),seed.length=32→h≤6→i < 2 ^ h→msg.length≤1048576 →
  Fun Tryz.prog tH2 7 [.str seed,.int .i64 (h:Int),.int .i64 (i:Int),.str msg] [] 0 (.tup [.str (SG seed h i msg),.int .i64 0]) [] 0
theorem sig_ok:SigOk sigF:=fun seed h i msg hs hh hi hm=>f207 seed h i msg hs hh hi hm
theorem gSig_yes {SG:List UInt8→Nat→Nat→List UInt8→List UInt8} {seed:List UInt8} {h i:Nat} {msg:List UInt8} (hs:seed.length=32) (hh:h≤6) (hi:i < 2 ^ h) (hm:msg.length≤1048576) :
    gSig SG [.str seed,.int .i64 (h:Int),.int .i64 (i:Int),.str msg]=some (.tup [.str (SG seed h i msg),.int .i64 0]):=by
  unfold gSig
  simp only [Int.toNat_natCast]
  rw [if_pos ⟨hs,by omega,by omega,hm⟩,decide_eq_true ⟨by omega,by omega⟩]
theorem gSig_no {SG:List UInt8→Nat→Nat→List UInt8→List UInt8} {seed:List UInt8} {h:Nat} {i:Int} {msg:List UInt8} (hs:seed.length=32) (hh:h≤6) (hi:i < 0∨((2 ^ h:Nat):Int)≤i) (hm:msg.length≤1048576) :
    gSig SG [.str seed,.int .i64 (h:Int),.int .i64 i,.str msg]=some (.tup [.str [],.int .i64 22]):=by
  unfold gSig
  simp only [Int.toNat_natCast]
  rw [if_pos ⟨hs,by omega,by omega,hm⟩,decide_eq_false (by omega)]
def tbAp (R:List UInt8→Nat→List UInt8) (SG:List UInt8→Nat→Nat→List UInt8→List UInt8):Tab:=⟨[(4,gPb R),(7,gSig SG)],[]⟩
theorem tbAp_ok {R:List UInt8→Nat→List UInt8} (HR:PubOk R) {SG:List UInt8→Nat→Nat→List UInt8→List UInt8} (HS:SigOk SG):TabX Tryz.prog tH2 (tbAp R SG):=by
  refine ⟨fun x h args r hr=>?_,fun x h=>by simp [tbAp] at h⟩
  simp only [tbAp,List.mem_cons,List.not_mem_nil,or_false] at h
  rcases h with rfl | rfl
  · exact (tbSg_ok HR).1 (4,gPb R) (by simp [tbSg]) args r hr
  · simp only at hr
    unfold gSig at hr
    split at hr
    · split at hr
      · rename_i hc
        obtain ⟨h1,h2,h3,h4⟩:=hc
        obtain ⟨k,rfl⟩:=Int.eq_ofNat_of_zero_le h2
        rw [Int.toNat_natCast] at hr
        split at hr
        · rename_i hd
          obtain ⟨d1,d2⟩:=of_decide_eq_true hd
          obtain ⟨j,rfl⟩:=Int.eq_ofNat_of_zero_le d1
          rw [Int.toNat_natCast] at hr
          cases hr
          exact ⟨HS _ k j _ h1 (by omega) (by omega) h4,fun η=>rfl,fun η=>rfl⟩
        · rename_i hd
          have hd:=of_decide_eq_false hd
          cases hr
          exact ⟨f207x pubT pub_ok _ _ k _ h1 (by omega) (pubT_len _ _) (by omega),fun η=>rfl,fun η=>rfl⟩
      · cases hr
    · cases hr
def tabAp:List (FuncId × GS):=[(5,gSane),(6,gStmt),(8,gChk),(9,gChk)]
theorem tabAp_ok:∀ x ∈ tabAp,FunS Tryz.prog tH2 x.1 x.2:=by
  intro x hx
  simp only [tabAp,List.mem_cons,List.not_mem_nil,or_false] at hx
  rcases hx with rfl | rfl | rfl | rfl
  · exact gSane_ok.more tHH
  · exact gStmt_ok
  · exact gChk_of f22
  · exact gChk_of f23
theorem stmt_len {d c:List UInt8} {e r v:Int} (hd:d.length=16) (hc:c.length=16):(stmt d e r v c).length≤200:=by
  have h1:=encI_len ((([v,e,r]:List Int).length:Nat):Int)
  have h2:=encL_len [v,e,r]
  simp only [List.length_cons,List.length_nil] at h2 h1
  have h3:custody.length=7:=rfl
  simp [stmt,encIs,hd,hc]
  simp at h1
  omega
set_option maxHeartbeats 16000000 in
theorem f203p (R:List UInt8→Nat→List UInt8) (HR:PubOk R) (lR:∀ seed h,(R seed h).length=16) (SG:List UInt8→Nat→Nat→List UInt8→List UInt8) (HS:SigOk SG) (lS:∀ seed h i msg,h≤6→(SG seed h i msg).length≤1000)
    (acc:∀ seed h i msg,h≤6→i < 2 ^ h→msg.length≤1048576→verS (R seed h) (h:Int) msg (SG seed h i msg)=((i:Int),0))
    (seed:List UInt8) (ht i:Int) (d c d' c':List UInt8) (e r v e' r' v':Int) (hd:d.length=16) (hd':d'.length=16) (hc:c.length=16) (hc':c'.length=16) :
    Fun Tryz.prog tH2 3 [.str seed,.int .i64 ht,.int .i64 i,.agg (parts d c e r v),.agg (parts d' c' e' r' v')] [] 0 (.bool true) [] 0:=by
  refine fun_any none (callS tabAp (callX (tbAp R SG))) (callS_ok tabAp_ok (callX_ok (tbAp_ok HR HS))) chk203 (show 5≤137 by decide) (by decide) ?_
  unfold sf203 og om oq ov
  obtain ⟨a1,a2,a3,a4,a5,a6,a7⟩:=parts_facts e r v hd hc
  obtain ⟨b1,b2,b3,b4,b5,b6,b7⟩:=parts_facts e' r' v' hd' hc'
  have pf:=parts_flat d c e r v
  have pf':=parts_flat d' c' e' r' v'
  generalize parts d c e r v=PA at *
  generalize parts d' c' e' r' v'=PB at *
  by_cases hp:seed.length=32∧0≤ht∧ht≤6
  case neg=>
    have gP:=gPb_no (R:=R) (seed:=seed) (ht:=ht) (by omega)
    have lz:(bys zero16).length=16:=rfl
    have fz:=flat_bytes zero16
    generalize zero16=Z at *
    simp (config:={ maxSteps:=1000000 }) only [tabAp,tbAp,gSane,↓gP,lz,fz,undef,Int.reduceBNe,reduceCtorEq,Nat.reduceEqDiff,Nat.reduceAdd,↓reduceIte,upd,splice,BC,↓PC]
    exact ⟨[],by simp [BC]⟩
  obtain ⟨hs,h0,h6⟩:=hp
  obtain ⟨h,rfl⟩:=Int.eq_ofNat_of_zero_le h0
  have hh:h≤6:=by omega
  have gP:=gPb_yes (R:=R) hs hh
  have lQ0:=lR seed h
  have lQ:(bys (R seed h)).length=16:=by rw [len_bytes,lQ0]
  have tQ:=take16 lQ0
  have fQ:=flat_bytes (R seed h)
  by_cases h2:(h:Int) > 2
  · simp (config:={ maxSteps:=1000000 }) only [tabAp,tbAp,gSane,↓gP,lQ,fQ,h2,Int.reduceBNe,reduceCtorEq,Nat.reduceEqDiff,Nat.reduceAdd,↓reduceIte,upd,splice,BC,↓PC]
    exact ⟨[],by simp [BC]⟩
  have gsA:gStmt [.agg (bys d),.int .i64 e,.int .i64 r,.int .i64 v,.agg (bys c)] []=some (.str (stmt d e r v c),[],0):=by
    unfold gStmt;simp only [unB_bytes,hd,hc,if_true]
  have gsB:gStmt [.agg (bys d'),.int .i64 e',.int .i64 r',.int .i64 v',.agg (bys c')] []=some (.str (stmt d' e' r' v' c'),[],0):=by
    unfold gStmt;simp only [unB_bytes,hd',hc',if_true]
  have sl:=stmt_len (e:=e) (r:=r) (v:=v) hd hc
  have sl':=stmt_len (e:=e') (r:=r') (v:=v') hd' hc'
  generalize stmt d e r v c=sA at *
  generalize stmt d' e' r' v' c'=sB at *
  by_cases hi:0≤i∧i < ((2 ^ h:Nat):Int)
  case neg=>
    have gS:=gSig_no (SG:=SG) (seed:=seed) (h:=h) (i:=i) (msg:=sA) hs hh (by omega) (by omega)
    generalize R seed h=Q at *
    have f1:(bys Q++[SV.int .i64 0]).length=17:=by rw [List.length_append,lQ];rfl
    have f2:List.take 16 (bys Q++[SV.int .i64 0])=bys Q:=List.take_left' lQ
    have f3:List.drop 17 (bys Q++[SV.int .i64 0])=[]:=List.drop_of_length_le (by rw [f1];exact Nat.le_refl _)
    have f4:(bys Q++[SV.int .i64 (h:Int)]).length=17:=by rw [List.length_append,lQ];rfl
    have f5:∀ r:List SV,List.take 17 (bys Q++[SV.int .i64 (h:Int)]++r)=bys Q++[SV.int .i64 (h:Int)]:=fun r=>List.take_left' f4
    have f6:∀ r:List SV,(bys Q++[SV.int .i64 (h:Int)]++r).length=17+r.length:=fun r=>by rw [List.length_append,f4]
    have f7:∀ r:List SV,r.length=18→List.drop 35 (bys Q++[SV.int .i64 (h:Int)]++r)=[]:=fun r hr=>List.drop_of_length_le (by rw [f6,hr];exact Nat.le_refl _)
    have hPl:Pub [⟨[97],Q,(h:Int)⟩,⟨[98],2 :: List.replicate 15 0,(h:Int)⟩]:=by intro m hm;simp only [List.mem_cons,List.not_mem_nil,or_false] at hm;rcases hm with rfl | rfl <;> first | exact lQ0 | rfl
    have hM:SV.str [97] :: (bys Q++[SV.int .i64 (h:Int)]++[SV.str [98],SV.int .u8 2,SV.int .u8 0,SV.int .u8 0,SV.int .u8 0,SV.int .u8 0,SV.int .u8 0,SV.int .u8 0,SV.int .u8 0,SV.int .u8 0,SV.int .u8 0,SV.int .u8 0,SV.int .u8 0,SV.int .u8 0,SV.int .u8 0,SV.int .u8 0,SV.int .u8 0,SV.int .i64 (h:Int)])=mcs [⟨[97],Q,(h:Int)⟩,⟨[98],2 :: List.replicate 15 0,(h:Int)⟩]:=rfl
    have lM:=len_mcs hPl
    have fM:=flat_mcs [⟨[97],Q,(h:Int)⟩,⟨[98],2 :: List.replicate 15 0,(h:Int)⟩]
    generalize mcs [⟨[97],Q,(h:Int)⟩,⟨[98],2 :: List.replicate 15 0,(h:Int)⟩]=M at *
    have lM:M.length=36:=lM
    have tM:List.take 36 M=M:=List.take_of_length_le (by omega)
    simp (config:={ maxSteps:=1000000 }) only [tabAp,tbAp,gSane,↓gP,↓gsA,↓gsB,↓gS,lQ,tQ,fQ,h2,hM,a1,a2,a3,a4,a5,a6,b1,b2,b3,b4,b5,b6,f1,f2,f3,f4,f5,f6,f7,Int.reduceBNe,reduceCtorEq,Nat.reduceEqDiff,Nat.reduceAdd,Nat.reduceLeDiff,↓reduceIte,upd,splice,BC,↓PC]
    exact ⟨[],by simp [BC]⟩
  obtain ⟨i0,i1⟩:=hi
  obtain ⟨k,rfl⟩:=Int.eq_ofNat_of_zero_le i0
  have hk:k < 2 ^ h:=by omega
  have gS:=gSig_yes (SG:=SG) hs hh hk (show sA.length≤1048576 by omega)
  have lG:=lS seed h k sA hh
  have hacc:=acc seed h k sA hh hk (by omega)
  generalize SG seed h k sA=G at *
  generalize R seed h=Q at *
  have f1:(bys Q++[SV.int .i64 0]).length=17:=by rw [List.length_append,lQ];rfl
  have f2:List.take 16 (bys Q++[SV.int .i64 0])=bys Q:=List.take_left' lQ
  have f3:List.drop 17 (bys Q++[SV.int .i64 0])=[]:=List.drop_of_length_le (by rw [f1];exact Nat.le_refl _)
  have f4:(bys Q++[SV.int .i64 (h:Int)]).length=17:=by rw [List.length_append,lQ];rfl
  have f5:∀ r:List SV,List.take 17 (bys Q++[SV.int .i64 (h:Int)]++r)=bys Q++[SV.int .i64 (h:Int)]:=fun r=>List.take_left' f4
  have f6:∀ r:List SV,(bys Q++[SV.int .i64 (h:Int)]++r).length=17+r.length:=fun r=>by rw [List.length_append,f4]
  have f7:∀ r:List SV,r.length=18→List.drop 35 (bys Q++[SV.int .i64 (h:Int)]++r)=[]:=fun r hr=>List.drop_of_length_le (by rw [f6,hr];exact Nat.le_refl _)
  have hPl:Pub [⟨[97],Q,(h:Int)⟩,⟨[98],2 :: List.replicate 15 0,(h:Int)⟩]:=by intro m hm;simp only [List.mem_cons,List.not_mem_nil,or_false] at hm;rcases hm with rfl | rfl <;> first | exact lQ0 | rfl
  have hM:SV.str [97] :: (bys Q++[SV.int .i64 (h:Int)]++[SV.str [98],SV.int .u8 2,SV.int .u8 0,SV.int .u8 0,SV.int .u8 0,SV.int .u8 0,SV.int .u8 0,SV.int .u8 0,SV.int .u8 0,SV.int .u8 0,SV.int .u8 0,SV.int .u8 0,SV.int .u8 0,SV.int .u8 0,SV.int .u8 0,SV.int .u8 0,SV.int .u8 0,SV.int .i64 (h:Int)])=mcs [⟨[97],Q,(h:Int)⟩,⟨[98],2 :: List.replicate 15 0,(h:Int)⟩]:=rfl
  have lM:=len_mcs hPl
  have fM:=flat_mcs [⟨[97],Q,(h:Int)⟩,⟨[98],2 :: List.replicate 15 0,(h:Int)⟩]
  have g1:=gChk_eq (e:=0) (n:=1) (i:=0) (msg:=sA) (sig:=G) hPl (show 2≤1000 by decide) (by omega) (by omega)
  have g2:=gChk_eq (e:=0) (n:=1) (i:=0) (msg:=sB) (sig:=G) hPl (show 2≤1000 by decide) (by omega) (by omega)
  have g3:=gChk_eq (e:=0) (n:=1) (i:=1) (msg:=sA) (sig:=G) hPl (show 2≤1000 by decide) (by omega) (by omega)
  have e1:chkT [⟨[97],Q,(h:Int)⟩,⟨[98],2 :: List.replicate 15 0,(h:Int)⟩] 0 sA G=.tup [.int .i64 (k:Int),.int .i64 0]:=by
    unfold chkT
    rw [show (0:Int)=((0:Nat):Int) from rfl,chk_at (k:=0) (m:=⟨[97],Q,(h:Int)⟩) rfl,hacc]
    rfl
  rw [e1] at g1
  unfold chkT at g2 g3
  generalize (chkS [⟨[97],Q,(h:Int)⟩,⟨[98],2 :: List.replicate 15 0,(h:Int)⟩] 0 sB G).1=x2 at *
  generalize (chkS [⟨[97],Q,(h:Int)⟩,⟨[98],2 :: List.replicate 15 0,(h:Int)⟩] 0 sB G).2=y2 at *
  generalize (chkS [⟨[97],Q,(h:Int)⟩,⟨[98],2 :: List.replicate 15 0,(h:Int)⟩] 1 sA G).1=x3 at *
  generalize (chkS [⟨[97],Q,(h:Int)⟩,⟨[98],2 :: List.replicate 15 0,(h:Int)⟩] 1 sA G).2=y3 at *
  simp only [List.length_cons,List.length_nil,Nat.reduceAdd] at g1 g2 g3
  generalize mcs [⟨[97],Q,(h:Int)⟩,⟨[98],2 :: List.replicate 15 0,(h:Int)⟩]=M at *
  have lM:M.length=36:=lM
  have tM:List.take 36 M=M:=List.take_of_length_le (by omega)
  simp (config:={ maxSteps:=1000000 }) only [tabAp,tbAp,gSane,↓gP,↓gsA,↓gsB,↓gS,lQ,tQ,fQ,h2,hM,lM,tM,fM,↓g1,↓g2,↓g3,a1,a2,a3,a4,a5,a6,b1,b2,b3,b4,b5,b6,f1,f2,f3,f4,f5,f6,f7,Int.reduceBNe,reduceCtorEq,Nat.reduceEqDiff,Nat.reduceAdd,Nat.reduceSub,Nat.reduceMul,Nat.reduceLeDiff,Nat.reduceLT,↓reduceIte,upd,splice,BC,↓PC]
  exact ⟨[],by simp [BC]⟩
theorem sigF_len (seed:List UInt8) (h i:Nat) (msg:List UInt8) (hh:h≤6):(sigF seed h i msg).length≤1000:=by
  have h1:=encI_len (i:Int)
  have h2:=encI_len (h:Int)
  have h3:=sgnS_len (leafS seed (i:Int)) (ofS 6 [pubT seed h,encI (i:Int),msg])
  have h4:=prfS_len h (lvsS seed h) i
  unfold sigF sigE
  have h5:=encI_len (((sgnS (leafS seed (i:Int)) (ofS 6 [pubT seed h,encI (i:Int),msg])).length:Nat):Int)
  simp only [encS,List.length_append]
  omega
theorem f203 (seed:List UInt8) (ht i:Int) (d c d' c':List UInt8) (e r v e' r' v':Int) (hd:d.length=16) (hd':d'.length=16) (hc:c.length=16) (hc':c'.length=16) :
    Fun Tryz.prog tH2 3 [.str seed,.int .i64 ht,.int .i64 i,.agg (parts d c e r v),.agg (parts d' c' e' r' v')] [] 0 (.bool true) [] 0:=
  f203p pubT pub_ok pubT_len sigF sig_ok (fun seed h i msg hh=>sigF_len seed h i msg hh) (fun seed h i msg hh hi hm=>accepted seed msg h i hh hi hm) seed ht i d c d' c' e r v e' r' v' hd hd' hc hc'
end Go.Proofs.YtkfbkooobfepeaaGreatDoor
