/- The proof, part Vk: FstA, FstB, FstC, FstD, FstE, FstF. -/
import Derived.Test.YtmhkkalbijbplaaGreatDoorVg
set_option linter.unusedSimpArgs false
set_option linter.unusedVariables false
set_option maxRecDepth 100000
set_option maxHeartbeats 16000000
namespace Go.Proofs.YtmhkkalbijbplaaGreatDoor
open Go Go.Sx
def Ad {α:Type} (n:Nat) (k:Nat→α):α:=Nat.rec (motive:=fun _=>α) (k 0) (fun m _=>k (Nat.succ m)) n
theorem j6 {α:Type} (n:Nat) (k:Nat→α):Ad n k=k n:=by cases n <;> rfl
def pL (x r:Nat):Nat:=Nat.lor (Nat.mod (Nat.mul x (Nat.pow 2 (Nat.sub 32 r))) 4294967296) (Nat.shiftRight x r)
def QT {α:Type} (a b c d e f g h k w:Nat) (K:Nat→Nat→α):α:=
 Ad (Nat.mod (Nat.add (Nat.add (Nat.add (Nat.add h (Nat.xor (Nat.xor (pL e 6) (pL e 11)) (pL e 25))) (Nat.xor (Nat.land e f) (Nat.land (Nat.sub 4294967295 e) g))) k) w) 4294967296) fun t1=>
 Ad (Nat.mod (Nat.add t1 (Nat.add (Nat.xor (Nat.xor (pL a 2) (pL a 13)) (pL a 22)) (Nat.xor (Nat.xor (Nat.land a b) (Nat.land a c)) (Nat.land b c)))) 4294967296) fun a'=>
 Ad (Nat.mod (Nat.add d t1) 4294967296) fun e'=>K a' e'
theorem rM (x y:Nat):oI (x:Int) (y:Int)=((Nat.mod (Nat.add x y) 4294967296:Nat):Int):=by
 unfold oI
 rw[← Int.natCast_add,o6];rfl
theorem j3 {x:Nat} (hx:x < 4294967296):((BitVec.ofNat 32 x).toNat)=x:=by
 rw[BitVec.toNat_ofNat];exact Nat.mod_eq_of_lt hx
theorem kN {x y:Nat} (hx:x < 4294967296) (hy:y < 4294967296):MN (x:Int) (y:Int)=((Nat.xor x y:Nat):Int):=by
 have h:=TR (BitVec.ofNat 32 x) (BitVec.ofNat 32 y)
 rw[j3 hx,j3 hy,BitVec.toNat_xor,j3 hx,j3 hy] at h
 exact h
theorem xO {x y:Nat} (hx:x < 4294967296) (hy:y < 4294967296):Hj (x:Int) (y:Int)=((Nat.land x y:Nat):Int):=by
 have h:=WT (BitVec.ofNat 32 x) (BitVec.ofNat 32 y)
 rw[j3 hx,j3 hy,BitVec.toNat_and,j3 hx,j3 hy] at h
 exact h
theorem QU {x:Nat} (hx:x < 4294967296):OS (x:Int)=((Nat.sub 4294967295 x:Nat):Int):=by
 have h:=WU (BitVec.ofNat 32 x)
 rw[j3 hx,BitVec.toNat_not,j3 hx] at h
 exact h
theorem mG {x r:Nat} (hx:x < 4294967296) (hr:r≤32):mM (x:Int) r=((pL x r:Nat):Int):=by
 have h:=UU (BitVec.ofNat 32 x) r hr
 rw[j3 hx] at h
 rw[h]
 unfold WV pL
 rw[BitVec.toNat_or,BitVec.toNat_shiftLeft,BitVec.toNat_ushiftRight,j3 hx,Nat.shiftLeft_eq]
 rfl
theorem Dx {x y:Nat} (hx:x < 4294967296) (hy:y < 4294967296):Nat.xor x y < 4294967296:=Nat.xor_lt_two_pow (n:=32) hx hy
theorem zY {x y:Nat} (hx:x < 4294967296):Nat.land x y < 4294967296:=Nat.lt_of_le_of_lt Nat.and_le_left hx
theorem j4 {x r:Nat} (hx:x < 4294967296):pL x r < 4294967296:=
 Nat.or_lt_two_pow (n:=32) (Nat.mod_lt _ (by decide)) (Nat.lt_of_le_of_lt (Nat.shiftRight_le x r) hx)
theorem kP (x:Nat):Nat.mod x 4294967296 < 4294967296:=Nat.mod_lt _ (by decide)
theorem xP (x y:Nat):oI ((Nat.mod x 4294967296:Nat):Int) (y:Int)=((Nat.mod (Nat.add x y) 4294967296:Nat):Int):=by
 rw[rM]
 congr 1
 exact Nat.mod_add_mod x 4294967296 y
theorem Iy (x:Nat):Nat.sub 4294967295 x < 4294967296:=Nat.lt_of_le_of_lt (Nat.sub_le _ _) (by decide)
theorem Mj {a b c d e f g h k w:Nat} (ha:a < 4294967296) (hb:b < 4294967296) (hc:c < 4294967296) (hd:d < 4294967296) (he:e < 4294967296) (hf:f < 4294967296) (hg:g < 4294967296) :
  QT a b c d e f g h k w (fun a' e'=>a' < 4294967296∧e' < 4294967296∧V8.round ⟨a,b,c,d,e,f,g,h⟩ w k=⟨a',a,b,c,e',e,f,g⟩):=by
 unfold QT
 rw[j6,j6,j6]
 refine⟨kP _,kP _,?_⟩
 have hm1:Bq (e:Int) 6 11 25=((Nat.xor (Nat.xor (pL e 6) (pL e 11)) (pL e 25):Nat):Int):=by
  unfold Bq
  rw[mG he (by decide),mG he (by decide),mG he (by decide)]
  exact (congrArg (fun z=>dL .xor .u32 z _) (kN (j4 he) (j4 he))).trans (kN (Dx (j4 he) (j4 he)) (j4 he))
 have hm2:Bq (a:Int) 2 13 22=((Nat.xor (Nat.xor (pL a 2) (pL a 13)) (pL a 22):Nat):Int):=by
  unfold Bq
  rw[mG ha (by decide),mG ha (by decide),mG ha (by decide)]
  exact (congrArg (fun z=>dL .xor .u32 z _) (kN (j4 ha) (j4 ha))).trans (kN (Dx (j4 ha) (j4 ha)) (j4 ha))
 unfold V8.round
 simp only
 rw[hm1,hm2,QU he,xO he hf,xO (Iy e) hg,kN (zY he) (zY (Iy e)),xO ha hb,xO ha hc,xO hb hc,kN (zY ha) (zY ha),
  kN (Dx (zY ha) (zY ha)) (zY hb),rM h,xP,xP,xP]
 generalize Nat.mod (Nat.add (Nat.add (Nat.add (Nat.add h (Nat.xor (Nat.xor (pL e 6) (pL e 11)) (pL e 25))) (Nat.xor (Nat.land e f) (Nat.land (Nat.sub 4294967295 e) g))) k) w) 4294967296=t1
 rw[rM (Nat.xor _ _),rM d]
 generalize Nat.xor (Nat.xor (pL a 2) (pL a 13)) (pL a 22)=y1
 generalize Nat.xor (Nat.xor (Nat.land a b) (Nat.land a c)) (Nat.land b c)=y2
 rw[rM]
 have:Nat.mod (Nat.add t1 (Nat.mod (Nat.add y1 y2) 4294967296)) 4294967296=Nat.mod (Nat.add t1 (Nat.add y1 y2)) 4294967296:=Nat.add_mod_mod t1 (y1+y2) 4294967296
 rw[this]
def Iz {α:Type}:List Nat→List Nat→Nat→Nat→Nat→Nat→Nat→Nat→Nat→Nat→(Nat→Nat→Nat→Nat→Nat→Nat→Nat→Nat→α)→α
 | k :: ks,w :: ws,a,b,c,d,e,f,g,h,K=>QT a b c d e f g h k w fun a' e'=>Iz ks ws a' a b c e' e f g K
 | _,_,a,b,c,d,e,f,g,h,K=>K a b c d e f g h
theorem QV {α:Type} {a b c d e f g h k w:Nat} {K:Nat→Nat→α}:∃ x y,(∀ {β:Type} (K':Nat→Nat→β),QT a b c d e f g h k w K'=K' x y):=by
 unfold QT
 exact⟨_,_,fun K'=>by rw[j6,j6,j6]⟩
theorem Lb {W:List Int} {s:V8}:∀ (ks ws:List Nat) (t:Nat) (a b c d e f g h:Nat),ks.length=ws.length→(∀ j,j < ks.length→kc.getD (t+j) 0=(ks.getD j 0:Int)∧W.getD (t+j) 0=(ws.getD j 0:Int)) →
  a < 4294967296→b < 4294967296→c < 4294967296→d < 4294967296→e < 4294967296→f < 4294967296→g < 4294967296→h < 4294967296→V8.rounds W s t=⟨a,b,c,d,e,f,g,h⟩ →
  Iz ks ws a b c d e f g h fun a b c d e f g h=>V8.rounds W s (t+ks.length)=⟨a,b,c,d,e,f,g,h⟩
 | [],ws,t,a,b,c,d,e,f,g,h,hl,_,_,_,_,_,_,_,_,_,hs=>hs
 | k :: ks,[],t,a,b,c,d,e,f,g,h,hl,_,_,_,_,_,_,_,_,_,_=>by simp at hl
 | k :: ks,w :: ws,t,a,b,c,d,e,f,g,h,hl,hkw,ha,hb,hc,hd,he,hf,hg,hh,hs=>by
  have R:=Mj (k:=k) (w:=w) (h:=h) ha hb hc hd he hf hg
  obtain⟨x,y,hxy⟩:=QV (α:=Prop) (a:=a) (b:=b) (c:=c) (d:=d) (e:=e) (f:=f) (g:=g) (h:=h) (k:=k) (w:=w) (K:=fun _ _=>True)
  rw[hxy] at R
  obtain⟨hx,hy,hr⟩:=R
  simp only[Iz]
  rw[hxy]
  have h0:=hkw 0 (by simp)
  simp only[Nat.add_zero,List.getD_cons_zero] at h0
  have hs1:V8.rounds W s (t+1)=⟨x,a,b,c,y,e,f,g⟩:=by
   show (V8.rounds W s t).round (W.getD t 0) (kc.getD t 0)=_
   rw[hs,h0.1,h0.2]
   exact hr
  have:=Lb ks ws (t+1) x a b c y e f g (by simpa using hl) (fun j hj=>by
   have:=hkw (j+1) (by simpa using hj)
   simpa [Nat.add_assoc,Nat.add_comm 1 j] using this) hx ha hb hc hy he hf hg hs1
  rw[show t+(k :: ks).length=t+1+ks.length by simp;omega]
  exact this
def V4 (p:Nat):Nat:=Nat.xor (Nat.xor (pL p 7) (pL p 18)) (Nat.shiftRight p 3)
def V5 (p:Nat):Nat:=Nat.xor (Nat.xor (pL p 17) (pL p 19)) (Nat.shiftRight p 10)
def JA (a b j o:Nat):Nat:=Nat.mod (Nat.add (Nat.add (Nat.add a (V4 b)) j) (V5 o)) 4294967296
def uS:Nat→Nat→Nat→Nat→Nat→Nat→Nat→Nat→Nat→Nat→Nat→Nat→Nat→Nat→Nat→Nat→Nat→List Nat
 | 0,a,b,c,d,e,f,g,h,i,j,k,l,m,n,o,p=>[a,b,c,d,e,f,g,h,i,j,k,l,m,n,o,p]
 | t+1,a,b,c,d,e,f,g,h,i,j,k,l,m,n,o,p=>a :: Ad (JA a b j o) fun q=>uS t b c d e f g h i j k l m n o p q
theorem JB:∀ (t a b c d e f g h i j k l m n o p:Nat),(uS t a b c d e f g h i j k l m n o p).length=t+16
 | 0,_,_,_,_,_,_,_,_,_,_,_,_,_,_,_,_=>by simp[uS]
 | t+1,_,_,_,_,_,_,_,_,_,_,_,_,_,_,_,_=>by
  simp only[uS,j6,List.length_cons,JB t]
theorem Ae:∀ (t a b c d e f g h i j k l m n o p:Nat),(uS t a b c d e f g h i j k l m n o p).take 16=[a,b,c,d,e,f,g,h,i,j,k,l,m,n,o,p]
 | 0,_,_,_,_,_,_,_,_,_,_,_,_,_,_,_,_=>by simp[uS]
 | t+1,a,b,c,d,e,f,g,h,i,j,k,l,m,n,o,p=>by
  simp only[uS,j6,List.take_succ_cons]
  have:=congrArg (List.take 15) (Ae t b c d e f g h i j k l m n o p (JA a b j o))
  rw[List.take_take] at this
  simp only[Nat.min_eq_left,List.take_succ_cons,List.take_zero,seval] at this
  rw[this]
theorem Lc {l:List Nat} {a b c d e f g h i j k m n o p q:Nat} (hw:l.take 16=[a,b,c,d,e,f,g,h,i,j,k,m,n,o,p,q]):l.getD 0 0=a∧l.getD 1 0=b∧l.getD 9 0=j∧l.getD 14 0=p∧l.getD 15 0=q:=by
 have key:∀ x,x < 16→l.getD x 0=[a,b,c,d,e,f,g,h,i,j,k,m,n,o,p,q].getD x 0:=fun x hx=>by
  rw[← hw,List.getD_eq_getElem?_getD,List.getD_eq_getElem?_getD,List.getElem?_take_of_lt hx]
 exact⟨key 0 (by decide),key 1 (by decide),key 9 (by decide),key 14 (by decide),key 15 (by decide)⟩
theorem JC:∀ (t a b c d e f g h i j k l m n o p x:Nat),x < t→(uS t a b c d e f g h i j k l m n o p).getD (x+16) 0 =
  JA ((uS t a b c d e f g h i j k l m n o p).getD x 0) ((uS t a b c d e f g h i j k l m n o p).getD (x+1) 0) ((uS t a b c d e f g h i j k l m n o p).getD (x+9) 0) ((uS t a b c d e f g h i j k l m n o p).getD (x+14) 0)
 | 0,_,_,_,_,_,_,_,_,_,_,_,_,_,_,_,_,x,hx=>by omega
 | t+1,a,b,c,d,e,f,g,h,i,j,k,l,m,n,o,p,0,_=>by
  have hw:=Ae t b c d e f g h i j k l m n o p (JA a b j o)
  have h0:=Lc (Ae (t+1) a b c d e f g h i j k l m n o p)
  have h1:=Lc hw
  rw[Nat.zero_add,Nat.zero_add,Nat.zero_add,Nat.zero_add,h0.1,h0.2.1,h0.2.2.1,h0.2.2.2.1]
  simp only[uS,j6,List.getD_cons_succ]
  exact h1.2.2.2.2
 | t+1,a,b,c,d,e,f,g,h,i,j,k,l,m,n,o,p,x+1,hx=>by
  have IH:=JC t b c d e f g h i j k l m n o p (JA a b j o) x (by omega)
  simp only[uS,j6]
  rw[show x+1+16=(x+16)+1 by omega,show x+1+9=(x+9)+1 by omega,show x+1+14=(x+14)+1 by omega]
  simp only[List.getD_cons_succ]
  exact IH
theorem Td {x s:Nat} (hx:x < 4294967296):Nat.shiftRight x s < 4294967296:=Nat.lt_of_le_of_lt (Nat.shiftRight_le x s) hx
theorem JD {x r:Nat} (hx:x < 4294967296) (hr:r≤32):OL (x:Int) r=((Nat.shiftRight x r:Nat):Int):=by
 have h:=TS (BitVec.ofNat 32 x) r hr
 rw[j3 hx,BitVec.toNat_ushiftRight,j3 hx] at h
 exact h
theorem QW {x:Nat} (hx:x < 4294967296):ON (x:Int)=((V4 x:Nat):Int):=by
 unfold ON V4
 rw[mG hx (by decide),mG hx (by decide),JD hx (by decide)]
 exact (congrArg (fun z=>dL .xor .u32 z _) (kN (j4 hx) (j4 hx))).trans (kN (Dx (j4 hx) (j4 hx)) (Td hx))
theorem QX {x:Nat} (hx:x < 4294967296):OO (x:Int)=((V5 x:Nat):Int):=by
 unfold OO V5
 rw[mG hx (by decide),mG hx (by decide),JD hx (by decide)]
 exact (congrArg (fun z=>dL .xor .u32 z _) (kN (j4 hx) (j4 hx))).trans (kN (Dx (j4 hx) (j4 hx)) (Td hx))
theorem Ld {B:List Int} {L:List Nat} (JI:L.length=64) (hlt:∀ t,t < 64→L.getD t 0 < 4294967296) (uT:∀ t,t < 16→OM B t=(L.getD t 0:Int))
  (hrec:∀ x,x < 48→L.getD (x+16) 0=JA (L.getD x 0) (L.getD (x+1) 0) (L.getD (x+9) 0) (L.getD (x+14) 0)):∀ t,t≤64→iU B t=(L.take t).map (fun n:Nat=>(n:Int))
 | 0,_=>rfl
 | t+1,ht=>by
  have IH:=Ld JI hlt uT hrec t (by omega)
  have hx:L[t]?=some (L.getD t 0):=by rw[List.getD_eq_getElem?_getD,List.getElem?_eq_getElem (by omega)];rfl
  rw[List.take_add_one,hx,List.map_append]
  simp only[iU]
  rw[IH]
  congr 1
  have hg:∀ j,j < t→((L.take t).map (fun n:Nat=>(n:Int))).getD j 0=(L.getD j 0:Int):=fun j hj=>by
   rw[List.getD_eq_getElem?_getD,List.getElem?_map,List.getElem?_take_of_lt hj,List.getElem?_eq_getElem (by omega),List.getD_eq_getElem?_getD,List.getElem?_eq_getElem (by omega)]
   rfl
  show [v8 B _ t]=[((L.getD t 0:Nat):Int)]
  congr 1
  unfold v8
  by_cases h:t < 16
  ·rw[if_pos h,uT t h]
  ·rw[if_neg h,hg _ (by omega),hg _ (by omega),hg _ (by omega),hg _ (by omega)]
   have hr:=hrec (t - 16) (by omega)
   rw[show t - 16+16=t by omega,show t - 16+1=t - 15 by omega,show t - 16+9=t - 7 by omega,show t - 16+14=t - 2 by omega] at hr
   rw[hr,QW (hlt _ (by omega)),QX (hlt _ (by omega)),rM,xP,xP]
   rfl
def Vv:List Nat:=[0x428a2f98,0x71374491,0xb5c0fbcf,0xe9b5dba5,0x3956c25b,0x59f111f1,0x923f82a4,0xab1c5ed5,
 0xd807aa98,0x12835b01,0x243185be,0x550c7dc3,0x72be5d74,0x80deb1fe,0x9bdc06a7,0xc19bf174,
 0xe49b69c1,0xefbe4786,0x0fc19dc6,0x240ca1cc,0x2de92c6f,0x4a7484aa,0x5cb0a9dc,0x76f988da,
 0x983e5152,0xa831c66d,0xb00327c8,0xbf597fc7,0xc6e00bf3,0xd5a79147,0x06ca6351,0x14292967,
 0x27b70a85,0x2e1b2138,0x4d2c6dfc,0x53380d13,0x650a7354,0x766a0abb,0x81c2c92e,0x92722c85,
 0xa2bfe8a1,0xa81a664b,0xc24b8b70,0xc76c51a3,0xd192e819,0xd6990624,0xf40e3585,0x106aa070,
 0x19a4c116,0x1e376c08,0x2748774c,0x34b0bcb5,0x391c0cb3,0x4ed8aa4a,0x5b9cca4f,0x682e6ff3,
 0x748f82ee,0x78a5636f,0x84c87814,0x8cc70208,0x90befffa,0xa4506ceb,0xbef9a3f7,0xc67178f2]
theorem V6:kc=Vv.map (fun n:Nat=>(n:Int)):=rfl
theorem Le:∀ (t a b c d e f g h i j k l m n o p:Nat),(∀ x∈[a,b,c,d,e,f,g,h,i,j,k,l,m,n,o,p],x < 4294967296)→∀ x∈uS t a b c d e f g h i j k l m n o p,x < 4294967296
 | 0,a,b,c,d,e,f,g,h,i,j,k,l,m,n,o,p,H,x,hx=>by
  simp only[uS] at hx
  exact H x hx
 | t+1,a,b,c,d,e,f,g,h,i,j,k,l,m,n,o,p,H,x,hx=>by
  simp only[uS,j6,List.mem_cons] at hx
  rcases hx with rfl|hx
  ·exact H _ (by simp)
  ·refine Le t b c d e f g h i j k l m n o p _ (fun y hy=>?_) x hx
   simp only[List.mem_cons,List.not_mem_nil,or_false] at hy
   have H':=fun y h=>H y (List.mem_cons_of_mem _ h)
   by_cases hq:y=JA a b j o
   ·rw[hq];exact kP _
   ·refine H' y ?_
    simp only[List.mem_cons,List.not_mem_nil,or_false]
    have:∀ P:Prop,(P∨y=JA a b j o)→P:=fun P h=>h.resolve_right hq
    rcases hy with h|h|h|h|h|h|h|h|h|h|h|h|h|h|h|h
    all_goals first|exact absurd h hq|simp[h]
def Mk {α:Type} (a b c d e f g h w0 w1 w2 w3 w4 w5 w6 w7 w8 w9 w10 w11 w12 w13 w14 w15:Nat) (K:Nat→Nat→Nat→Nat→Nat→Nat→Nat→Nat→α):α:=
 Iz Vv (uS 48 w0 w1 w2 w3 w4 w5 w6 w7 w8 w9 w10 w11 w12 w13 w14 w15) a b c d e f g h fun a' b' c' d' e' f' g' h'=>
  Ad (Nat.mod (Nat.add a a') 4294967296) fun a=>Ad (Nat.mod (Nat.add b b') 4294967296) fun b=>Ad (Nat.mod (Nat.add c c') 4294967296) fun c=>Ad (Nat.mod (Nat.add d d') 4294967296) fun d=>
  Ad (Nat.mod (Nat.add e e') 4294967296) fun e=>Ad (Nat.mod (Nat.add f f') 4294967296) fun f=>Ad (Nat.mod (Nat.add g g') 4294967296) fun g=>Ad (Nat.mod (Nat.add h h') 4294967296) fun h=>K a b c d e f g h
theorem Ju {α:Type}:∀ (ks ws:List Nat) (a b c d e f g h:Nat),∃ a' b' c' d' e' f' g' h',∀ {β:Type} (K:Nat→Nat→Nat→Nat→Nat→Nat→Nat→Nat→β),Iz ks ws a b c d e f g h K=K a' b' c' d' e' f' g' h'
 | k :: ks,w :: ws,a,b,c,d,e,f,g,h=>by
  obtain⟨x,y,hxy⟩:=QV (α:=Prop) (a:=a) (b:=b) (c:=c) (d:=d) (e:=e) (f:=f) (g:=g) (h:=h) (k:=k) (w:=w) (K:=fun _ _=>True)
  obtain⟨a',b',c',d',e',f',g',h',H⟩:=Ju (α:=α) ks ws x a b c y e f g
  exact⟨a',b',c',d',e',f',g',h',fun K=>by simp only[Iz];rw[hxy,H]⟩
 | [],ws,a,b,c,d,e,f,g,h=>⟨a,b,c,d,e,f,g,h,fun K=>by simp only[Iz]⟩
 | k :: ks,[],a,b,c,d,e,f,g,h=>⟨a,b,c,d,e,f,g,h,fun K=>by simp only[Iz]⟩
theorem QY {B:List Int} {a b c d e f g h w0 w1 w2 w3 w4 w5 w6 w7 w8 w9 w10 w11 w12 w13 w14 w15:Nat} (ha:a < 4294967296) (hb:b < 4294967296) (hc:c < 4294967296) (hd:d < 4294967296) (he:e < 4294967296) (hf:f < 4294967296) (hg:g < 4294967296) (hh:h < 4294967296)
  (hw:∀ x∈[w0,w1,w2,w3,w4,w5,w6,w7,w8,w9,w10,w11,w12,w13,w14,w15],x < 4294967296) (hB:∀ t,t < 16→OM B t=([w0,w1,w2,w3,w4,w5,w6,w7,w8,w9,w10,w11,w12,w13,w14,w15].getD t 0:Int)) :
  Mk a b c d e f g h w0 w1 w2 w3 w4 w5 w6 w7 w8 w9 w10 w11 w12 w13 w14 w15 fun a' b' c' d' e' f' g' h'=>(a' < 4294967296∧b' < 4294967296∧c' < 4294967296∧d' < 4294967296∧e' < 4294967296∧f' < 4294967296∧g' < 4294967296∧h' < 4294967296)∧comp ⟨a,b,c,d,e,f,g,h⟩ B=⟨a',b',c',d',e',f',g',h'⟩:=by
 have hL:=JB 48 w0 w1 w2 w3 w4 w5 w6 w7 w8 w9 w10 w11 w12 w13 w14 w15
 have hW:=Ae 48 w0 w1 w2 w3 w4 w5 w6 w7 w8 w9 w10 w11 w12 w13 w14 w15
 have hR:=JC 48 w0 w1 w2 w3 w4 w5 w6 w7 w8 w9 w10 w11 w12 w13 w14 w15
 have hT:=Le 48 w0 w1 w2 w3 w4 w5 w6 w7 w8 w9 w10 w11 w12 w13 w14 w15 hw
 unfold Mk
 generalize uS 48 w0 w1 w2 w3 w4 w5 w6 w7 w8 w9 w10 w11 w12 w13 w14 w15=L at *
 have hlt:∀ t,t < 64→L.getD t 0 < 4294967296:=fun t ht=>by
  rw[List.getD_eq_getElem?_getD,List.getElem?_eq_getElem (by omega)]
  exact hT _ (List.getElem_mem _)
 have hB':∀ t,t < 16→OM B t=(L.getD t 0:Int):=fun t ht=>by
  rw[hB t ht,← hW,List.getD_eq_getElem?_getD,List.getD_eq_getElem?_getD,List.getElem?_take_of_lt ht]
 have hs:=Ld hL hlt hB' hR 64 (Nat.le_refl _)
 rw[List.take_of_length_le (by omega)] at hs
 have hr:=Lb (W:=iU B 64) (s:=⟨a,b,c,d,e,f,g,h⟩) Vv L 0 a b c d e f g h (by rw[hL];rfl) (fun j hj=>by
  rw[Nat.zero_add,hs,V6]
  have hj:j < 64:=hj
  simp only[List.getD_eq_getElem?_getD,List.getElem?_map]
  rw[List.getElem?_eq_getElem (show j < Vv.length from hj),List.getElem?_eq_getElem (by omega)]
  exact⟨rfl,rfl⟩) ha hb hc hd he hf hg hh rfl
 obtain⟨a',b',c',d',e',f',g',h',H⟩:=Ju (α:=Prop) Vv L a b c d e f g h
 rw[H] at hr
 rw[H]
 simp only[j6]
 refine⟨⟨kP _,kP _,kP _,kP _,kP _,kP _,kP _,kP _⟩,?_⟩
 unfold comp
 have hr':V8.rounds (iU B 64) ⟨a,b,c,d,e,f,g,h⟩ 64=⟨a',b',c',d',e',f',g',h'⟩:=hr
 rw[hr']
 unfold V8.add
 simp only[rM]
theorem yN {w c:Nat} (hw:w < 16777216) (hc:c < 256):sP (w:Int) (c:Int)=((w * 256+c:Nat):Int):=by
 unfold sP
 have h1:IntKind.u32.wrap ((w:Int) * 2 ^ (min 8 IntKind.u32.bits))=((w * 256:Nat):Int):=by
  rw[show min 8 IntKind.u32.bits=8 from rfl,show ((w:Int) * 2 ^ 8)=((w * 256:Nat):Int) by omega,o6,Nat.mod_eq_of_lt (by omega)]
 have h2:IntKind.u32.wrap (c:Int)=(c:Int):=by rw[o6,Nat.mod_eq_of_lt (by omega)]
 rw[h1,h2]
 have h:=MM (BitVec.ofNat 32 (w * 256)) (BitVec.ofNat 32 c)
 rw[j3 (by omega),j3 (by omega),BitVec.toNat_or,j3 (by omega),j3 (by omega)] at h
 rw[h]
 have:=Nat.two_pow_add_eq_or_of_lt (i:=8) (b:=c) (by omega) w
 rw[show 2 ^ 8 * w=w * 256 by omega] at this
 rw[this]
def w4 (a b c d:Nat):Nat:=((a * 256+b) * 256+c) * 256+d
theorem Sn {B:List Int} {t a b c d:Nat} (ha:a < 256) (hb:b < 256) (hc:c < 256) (hd:d < 256) (h0:B.getD (4 * t) 0=a) (h1:B.getD (4 * t+1) 0=b) (h2:B.getD (4 * t+2) 0=c) (h3:B.getD (4 * t+3) 0=d) :
  OM B t=((w4 a b c d:Nat):Int):=by
 unfold OM w4
 rw[h0,h1,h2,h3]
 have e:=yN (w:=0) (c:=a) (by omega) ha
 rw[Nat.zero_mul,Nat.zero_add] at e
 rw[show (0:Int)=((0:Nat):Int) from rfl,e,yN (by omega) hb,yN (by omega) hc,yN (by omega) hd]
def r4 {α:Type}:List Nat→(Nat→List Nat→α)→α
 | a :: b :: c :: d :: r,K=>Ad (w4 a b c d) fun w=>K w r
 | _,K=>K 0 []
def Jv {α:Type}:Nat→List Nat→Nat→Nat→Nat→Nat→Nat→Nat→Nat→Nat→(Nat→Nat→Nat→Nat→Nat→Nat→Nat→Nat→α)→α
 | 0,_,a,b,c,d,e,f,g,h,K=>K a b c d e f g h
 | t+1,l,a,b,c,d,e,f,g,h,K=>r4 l fun w0 l0=>r4 l0 fun w1 l1=>r4 l1 fun w2 l2=>r4 l2 fun w3 l3=>r4 l3 fun w4 l4=>r4 l4 fun w5 l5=>r4 l5 fun w6 l6=>r4 l6 fun w7 l7=>r4 l7 fun w8 l8=>r4 l8 fun w9 l9=>r4 l9 fun w10 l10=>r4 l10 fun w11 l11=>r4 l11 fun w12 l12=>r4 l12 fun w13 l13=>r4 l13 fun w14 l14=>r4 l14 fun w15 l15=>Mk a b c d e f g h w0 w1 w2 w3 w4 w5 w6 w7 w8 w9 w10 w11 w12 w13 w14 w15 fun a b c d e f g h=>Jv t l15 a b c d e f g h K
def gI (b:List UInt8):List Nat:=b.map UInt8.toNat
theorem YY {α:Type} {l:List Nat} {K:Nat→List Nat→α} (h:4≤l.length):r4 l K=K (w4 (l.getD 0 0) (l.getD 1 0) (l.getD 2 0) (l.getD 3 0)) (l.drop 4):=by
 match l,h with
 | a :: b :: c :: d :: r,_=>simp only[r4,j6];rfl
theorem Ml (l:List Nat) (i j:Nat):(l.drop i).getD j 0=l.getD (i+j) 0:=by
 simp only[List.getD_eq_getElem?_getD,List.getElem?_drop]
def iX (l:List Nat) (t:Nat):Nat:=w4 (l.getD (4 * t) 0) (l.getD (4 * t+1) 0) (l.getD (4 * t+2) 0) (l.getD (4 * t+3) 0)
theorem pN {α:Type} {l:List Nat} {t:Nat} {K:Nat→List Nat→α} (h:4 * t+4≤l.length):r4 (l.drop (4 * t)) K=K (iX l t) (l.drop (4 * (t+1))):=by
 rw[YY (by rw[List.length_drop];omega)]
 simp only[Ml,List.drop_drop,Nat.add_zero]
 rfl
theorem JE {α:Type} {t:Nat} {l:List Nat} {a b c d e f g h:Nat} {K:Nat→Nat→Nat→Nat→Nat→Nat→Nat→Nat→α} (hl:64≤l.length) :
  Jv (t+1) l a b c d e f g h K=Mk a b c d e f g h (iX l 0) (iX l 1) (iX l 2) (iX l 3) (iX l 4) (iX l 5) (iX l 6) (iX l 7) (iX l 8) (iX l 9) (iX l 10) (iX l 11) (iX l 12) (iX l 13) (iX l 14) (iX l 15) fun a b c d e f g h=>Jv t (l.drop 64) a b c d e f g h K:=by
 simp only[Jv]
 have e0:l=l.drop (4 * 0):=rfl
 conv=>lhs;rw[e0]
 rw[pN (t:=0) (by omega),pN (t:=1) (by omega),pN (t:=2) (by omega),pN (t:=3) (by omega),pN (t:=4) (by omega),pN (t:=5) (by omega),pN (t:=6) (by omega),pN (t:=7) (by omega),pN (t:=8) (by omega),pN (t:=9) (by omega),pN (t:=10) (by omega),pN (t:=11) (by omega),pN (t:=12) (by omega),pN (t:=13) (by omega),pN (t:=14) (by omega),pN (t:=15) (by omega)]
theorem QZ {α:Type} (a b c d e f g h w0 w1 w2 w3 w4 w5 w6 w7 w8 w9 w10 w11 w12 w13 w14 w15:Nat):∃ a' b' c' d' e' f' g' h',∀ {β:Type} (K:Nat→Nat→Nat→Nat→Nat→Nat→Nat→Nat→β),Mk a b c d e f g h w0 w1 w2 w3 w4 w5 w6 w7 w8 w9 w10 w11 w12 w13 w14 w15 K=K a' b' c' d' e' f' g' h':=by
 obtain⟨a',b',c',d',e',f',g',h',H⟩:=Ju (α:=α) Vv (uS 48 w0 w1 w2 w3 w4 w5 w6 w7 w8 w9 w10 w11 w12 w13 w14 w15) a b c d e f g h
 exact⟨Nat.mod (Nat.add a a') 4294967296,Nat.mod (Nat.add b b') 4294967296,Nat.mod (Nat.add c c') 4294967296,Nat.mod (Nat.add d d') 4294967296,Nat.mod (Nat.add e e') 4294967296,Nat.mod (Nat.add f f') 4294967296,Nat.mod (Nat.add g g') 4294967296,Nat.mod (Nat.add h h') 4294967296,fun K=>by unfold Mk;rw[H];simp only[j6]⟩
theorem Lf (b:List UInt8) (q:Nat):(gI b).getD q 0=(b.getD q 0).toNat:=by
 simp only[gI,List.getD_eq_getElem?_getD,List.getElem?_map]
 cases b[q]? <;> rfl
theorem xQ (b:List UInt8) (q:Nat):(gI b).getD q 0 < 256:=by rw[Lf];exact UInt8.toNat_lt _
theorem CZ {b:List UInt8} {q:Nat} (hq:q < 64):(Be (b.take 64)).getD q 0=(((gI b).getD q 0:Nat):Int):=by
 rw[Lf]
 simp only[Be,List.getD_eq_getElem?_getD,List.getElem?_map,List.getElem?_take_of_lt hq]
 cases b[q]? <;> rfl
theorem YZ {a b c d:Nat} (ha:a < 256) (hb:b < 256) (hc:c < 256) (hd:d < 256):w4 a b c d < 4294967296:=by unfold w4;omega
theorem V7 (b:List UInt8) (t:Nat):iX (gI b) t < 4294967296:=YZ (xQ _ _) (xQ _ _) (xQ _ _) (xQ _ _)
theorem V9 {b:List UInt8} {t:Nat} (ht:t < 16):OM (Be (b.take 64)) t=((iX (gI b) t:Nat):Int):=
 Sn (xQ _ _) (xQ _ _) (xQ _ _) (xQ _ _) (CZ (by omega)) (CZ (by omega)) (CZ (by omega)) (CZ (by omega))
theorem Y0 (l:List Nat):∀ t,t < 16→[iX l 0,iX l 1,iX l 2,iX l 3,iX l 4,iX l 5,iX l 6,iX l 7,iX l 8,iX l 9,iX l 10,iX l 11,iX l 12,iX l 13,iX l 14,iX l 15].getD t 0=iX l t:=by
 intro t ht
 have:t=0∨t=1∨t=2∨t=3∨t=4∨t=5∨t=6∨t=7∨t=8∨t=9∨t=10∨t=11∨t=12∨t=13∨t=14∨t=15:=by omega
 rcases this with rfl|rfl|rfl|rfl|rfl|rfl|rfl|rfl|rfl|rfl|rfl|rfl|rfl|rfl|rfl|rfl <;> rfl
theorem Lg {m:List UInt8} {n:Nat} (hm:m.length=64 * n):∀ (k t a b c d e f g h:Nat),t+k=n→a < 4294967296→b < 4294967296→c < 4294967296→d < 4294967296→e < 4294967296→f < 4294967296→g < 4294967296→h < 4294967296 →
  vY (m.take (64 * t))=⟨a,b,c,d,e,f,g,h⟩→Jv k (gI (m.drop (64 * t))) a b c d e f g h fun a' b' c' d' e' f' g' h'=>
   (a' < 4294967296∧b' < 4294967296∧c' < 4294967296∧d' < 4294967296∧e' < 4294967296∧f' < 4294967296∧g' < 4294967296∧h' < 4294967296)∧vY m=⟨a',b',c',d',e',f',g',h'⟩
 | 0,t,a,b,c,d,e,f,g,h,hk,ha,hb,hc,hd,he,hf,hg,hh,hv=>by
  rw[List.take_of_length_le (by omega)] at hv
  exact⟨⟨ha,hb,hc,hd,he,hf,hg,hh⟩,hv⟩
 | k+1,t,a,b,c,d,e,f,g,h,hk,ha,hb,hc,hd,he,hf,hg,hh,hv=>by
  rw[JE (by simp[gI];omega)]
  have hst:=Et (m:=m) (t:=t) (by omega)
  rw[hv] at hst
  have hl:(gI (m.drop (64 * t))).drop 64=gI (m.drop (64 * (t+1))):=by
   simp only[gI,← List.map_drop,List.drop_drop,Nat.mul_add,Nat.mul_one]
  rw[hl]
  have C:=QY (B:=Be ((m.drop (64 * t)).take 64)) (w0:=iX (gI (m.drop (64 * t))) 0) (w1:=iX (gI (m.drop (64 * t))) 1) (w2:=iX (gI (m.drop (64 * t))) 2) (w3:=iX (gI (m.drop (64 * t))) 3) (w4:=iX (gI (m.drop (64 * t))) 4) (w5:=iX (gI (m.drop (64 * t))) 5) (w6:=iX (gI (m.drop (64 * t))) 6) (w7:=iX (gI (m.drop (64 * t))) 7) (w8:=iX (gI (m.drop (64 * t))) 8) (w9:=iX (gI (m.drop (64 * t))) 9) (w10:=iX (gI (m.drop (64 * t))) 10) (w11:=iX (gI (m.drop (64 * t))) 11) (w12:=iX (gI (m.drop (64 * t))) 12) (w13:=iX (gI (m.drop (64 * t))) 13) (w14:=iX (gI (m.drop (64 * t))) 14) (w15:=iX (gI (m.drop (64 * t))) 15) ha hb hc hd he hf hg hh (by
   intro x hx
   simp only[List.mem_cons,List.not_mem_nil,or_false] at hx
   rcases hx with rfl|rfl|rfl|rfl|rfl|rfl|rfl|rfl|rfl|rfl|rfl|rfl|rfl|rfl|rfl|rfl <;> exact V7 _ _) (fun j hj=>by rw[Y0 _ j hj];exact V9 hj)
  obtain⟨a',b',c',d',e',f',g',h',H⟩:=QZ (α:=Prop) a b c d e f g h (iX (gI (m.drop (64 * t))) 0) (iX (gI (m.drop (64 * t))) 1) (iX (gI (m.drop (64 * t))) 2) (iX (gI (m.drop (64 * t))) 3) (iX (gI (m.drop (64 * t))) 4) (iX (gI (m.drop (64 * t))) 5) (iX (gI (m.drop (64 * t))) 6) (iX (gI (m.drop (64 * t))) 7) (iX (gI (m.drop (64 * t))) 8) (iX (gI (m.drop (64 * t))) 9) (iX (gI (m.drop (64 * t))) 10) (iX (gI (m.drop (64 * t))) 11) (iX (gI (m.drop (64 * t))) 12) (iX (gI (m.drop (64 * t))) 13) (iX (gI (m.drop (64 * t))) 14) (iX (gI (m.drop (64 * t))) 15)
  rw[H] at C
  obtain⟨⟨ha',hb',hc',hd',he',hf',hg',hh'⟩,hcc⟩:=C
  rw[H]
  exact Lg hm k (t+1) a' b' c' d' e' f' g' h' (by omega) ha' hb' hc' hd' he' hf' hg' hh' (hst.trans hcc)
theorem BX (k:Nat):(kF (k:Int)).toNat=k % 256:=by
 have h:IntKind.u8.wrap (k:Int)=((k % 256:Nat):Int):=by simp[IntKind.wrap,IntKind.bits,IntKind.signed]
 unfold kF
 rw[h,Int.toNat_natCast,UInt8.toNat_ofNat']
 omega
theorem JF (x s:Nat):((x:Int).fdiv (2 ^ s))=((x / 2 ^ s:Nat):Int):=by
 have:((2:Int) ^ s)=((2 ^ s:Nat):Int):=by simp
 rw[this]
 exact Int.ofNat_fdiv _ _ |>.symm
theorem Q0 {n i:Nat} (hn:n < 536870912) (hi:i < 8):(EP n i).toNat=8 * n / 2 ^ (56 - 8 * i) % 256:=by
 unfold EP
 have h1:IntKind.u64.wrap (8 * (n:Int))=((8 * n:Nat):Int):=by
  have:IntKind.u64.wrap (8 * (n:Int))=(8 * (n:Int)) % 18446744073709551616:=by simp[IntKind.wrap,IntKind.bits,IntKind.signed]
  rw[this];omega
 have h2:min (56 - 8 * i) IntKind.u64.bits=56 - 8 * i:=Nat.min_eq_left (by show 56 - 8 * i≤64;omega)
 rw[h1,h2,JF,BX]
def So (n:Nat):List Nat:=128 :: (List.replicate (jA n) 0++[0,0,0,0,8 * n / 16777216 % 256,8 * n / 65536 % 256,8 * n / 256 % 256,8 * n % 256])
theorem Lh {n:Nat} (hn:n < 536870912):gI (jQ n)=So n:=by
 unfold jQ So gI Eu
 have hl:∀ i,i < 8→(EP n i).toNat=8 * n / 2 ^ (56 - 8 * i) % 256:=fun i hi=>Q0 hn hi
 have r8:List.range 8=[0,1,2,3,4,5,6,7]:=rfl
 rw[r8]
 simp only[List.map_cons,List.map_append,List.map_replicate,List.map_nil,List.cons_append]
 rw[hl 0 (by decide),hl 1 (by decide),hl 2 (by decide),hl 3 (by decide),hl 4 (by decide),hl 5 (by decide),hl 6 (by decide),hl 7 (by decide)]
 have z:∀ s,32≤s→8 * n / 2 ^ s % 256=0:=fun s hs=>by
  have:8 * n / 2 ^ s=0:=Nat.div_eq_of_lt (Nat.lt_of_lt_of_le (show 8 * n < 2 ^ 32 by omega) (Nat.pow_le_pow_right (by decide) hs))
  rw[this]
 rw[z _ (by decide),z _ (by decide),z _ (by decide),z _ (by decide)]
 simp only[Nat.reduceMul,Nat.reduceSub,Nat.reducePow,Nat.div_one]
 rfl
def bN (w:Nat):List Nat:=[w / 16777216 % 256,w / 65536 % 256,w / 256 % 256,w % 256]
def Y3 (a b c d e f g h:Nat):List Nat:=bN a++(bN b++(bN c++(bN d++(bN e++(bN f++(bN g++bN h))))))
theorem Q3 {s:V8} {i x:Nat} (hx:s.l.getD (i / 4) 0=(x:Int)):(Hn s i).toNat=x / 2 ^ (24 - 8 * (i % 4)) % 256:=by
 unfold Hn
 have h2:min (24 - 8 * (i % 4)) IntKind.u32.bits=24 - 8 * (i % 4):=Nat.min_eq_left (by show 24 - 8 * (i % 4)≤32;omega)
 rw[hx,h2,JF,BX]
theorem Sp (a b c d e f g h:Nat):gI (Br ⟨a,b,c,d,e,f,g,h⟩)=Y3 a b c d e f g h:=by
 have r32:List.range 32=[0,1,2,3,4,5,6,7,8,9,10,11,12,13,14,15,16,17,18,19,20,21,22,23,24,25,26,27,28,29,30,31]:=rfl
 unfold gI Br
 rw[r32]
 simp only[List.map_cons,List.map_nil]
 have H:∀ (i x:Nat),(⟨a,b,c,d,e,f,g,h⟩:V8).l.getD (i / 4) 0=(x:Int)→(Hn ⟨a,b,c,d,e,f,g,h⟩ i).toNat=x / 2 ^ (24 - 8 * (i % 4)) % 256:=fun i x hx=>Q3 hx
 rw[H 0 a rfl,H 1 a rfl,H 2 a rfl,H 3 a rfl,H 4 b rfl,H 5 b rfl,H 6 b rfl,H 7 b rfl,H 8 c rfl,H 9 c rfl,H 10 c rfl,H 11 c rfl,H 12 d rfl,H 13 d rfl,H 14 d rfl,H 15 d rfl,
  H 16 e rfl,H 17 e rfl,H 18 e rfl,H 19 e rfl,H 20 f rfl,H 21 f rfl,H 22 f rfl,H 23 f rfl,H 24 g rfl,H 25 g rfl,H 26 g rfl,H 27 g rfl,H 28 h rfl,H 29 h rfl,H 30 h rfl,H 31 h rfl]
 simp only[Nat.reduceMod,Nat.reduceMul,Nat.reduceSub,Nat.reducePow,Nat.div_one]
 rfl
def Q4 (l:List Nat):List Nat:=
 Jv ((l.length+jA l.length+9) / 64) (l++So l.length) 1779033703 3144134277 1013904242 2773480762 1359893119 2600822924 528734635 1541459225 Y3
theorem Q5 {α:Type}:∀ (k:Nat) (l:List Nat) (a b c d e f g h:Nat),64 * k≤l.length→∃ a' b' c' d' e' f' g' h',∀ {β:Type} (K:Nat→Nat→Nat→Nat→Nat→Nat→Nat→Nat→β),Jv k l a b c d e f g h K=K a' b' c' d' e' f' g' h'
 | 0,l,a,b,c,d,e,f,g,h,_=>⟨a,b,c,d,e,f,g,h,fun K=>rfl⟩
 | k+1,l,a,b,c,d,e,f,g,h,hl=>by
  obtain⟨x1,x2,x3,x4,x5,x6,x7,x8,H⟩:=QZ (α:=α) a b c d e f g h (iX l 0) (iX l 1) (iX l 2) (iX l 3) (iX l 4) (iX l 5) (iX l 6) (iX l 7) (iX l 8) (iX l 9) (iX l 10) (iX l 11) (iX l 12) (iX l 13) (iX l 14) (iX l 15)
  obtain⟨a',b',c',d',e',f',g',h',H'⟩:=Q5 (α:=α) k (l.drop 64) x1 x2 x3 x4 x5 x6 x7 x8 (by rw[List.length_drop];omega)
  exact⟨a',b',c',d',e',f',g',h',fun K=>by rw[JE (by omega),H,H']⟩
theorem oQ (a b:List UInt8):gI (a++b)=gI a++gI b:=List.map_append
theorem Gd (a:List UInt8):(gI a).length=a.length:=List.length_map _
theorem Ge {m:List UInt8} (hm:m.length < 536870912):gI (jR m)=Q4 (gI m):=by
 unfold jR Q4
 rw[Gd]
 have hp:=wW m.length
 have hmod:=Hm m.length
 rw[hp] at hmod
 have hlen:(m++jQ m.length).length=64 * ((m.length+jA m.length+9) / 64):=by rw[List.length_append,hp];omega
 have B:=Lg hlen ((m.length+jA m.length+9) / 64) 0 1779033703 3144134277 1013904242 2773480762 1359893119 2600822924 528734635 1541459225 (by omega) (by decide) (by decide) (by decide) (by decide) (by decide) (by decide) (by decide) (by decide) rfl
 rw[Nat.mul_zero,List.drop_zero,oQ,Lh hm] at B
 obtain⟨a,b,c,d,e,f,g,h,H⟩:=Q5 (α:=Prop) ((m.length+jA m.length+9) / 64) (gI m++So m.length) 1779033703 3144134277 1013904242 2773480762 1359893119 2600822924 528734635 1541459225 (by
  rw[← Lh hm,← oQ,Gd,hlen];exact Nat.le_refl _)
 rw[H] at B
 rw[H,B.2,Sp]
end Go.Proofs.YtmhkkalbijbplaaGreatDoor
