/- The proof, part Vza: PfA, PfB, PfC, PfD, PfE, PfF. -/
import Derived.Test.YtmhkkalbijbplaaGreatDoorVp
set_option linter.unusedSimpArgs false
set_option linter.unusedVariables false
set_option maxRecDepth 100000
set_option maxHeartbeats 16000000
namespace Go.Proofs.YtmhkkalbijbplaaGreatDoor
open Go Go.Sx
def aV (n:Nat):Nat:=2 ^ Nat.log2 (n - 1)
theorem jI {n:Nat} (h:2≤n):aV n < n:=by
 have:=Nat.log2_self_le (n:=n - 1) (by omega)
 unfold aV
 omega
theorem jW (n:Nat):1≤aV n:=Nat.one_le_two_pow
theorem C4 {n:Nat} (h:2≤n):n≤aV n+aV n:=by
 have:=Nat.lt_log2_self (n:=n - 1)
 unfold aV
 rw[Nat.pow_succ] at this
 omega
theorem Ag {n t:Nat} (h:2≤n) (hn:n≤2 ^ (t+1)):aV n≤2 ^ t:=by
 unfold aV
 apply Nat.pow_le_pow_right (by decide)
 have:=(Nat.log2_lt (n:=n - 1) (k:=t+1) (by omega)).2 (by omega)
 omega
theorem Ln {n k:Nat} (h1:2 ^ k < n) (h2:n≤2 ^ k+2 ^ k):aV n=2 ^ k:=by
 have hp:=Nat.two_pow_pos k
 unfold aV
 congr 1
 have a:=(Nat.log2_lt (n:=n - 1) (k:=k+1) (by omega)).2 (by rw[Nat.pow_succ];omega)
 have b:¬ (n - 1).log2 < k:=fun h=>by
  have:=(Nat.log2_lt (n:=n - 1) (k:=k) (by omega)).1 h
  omega
 omega
def iH:Nat→Nat→Nat→List Bool
 | 0,_,_=>[]
 | t+1,m,n=>if m < n then (if m≤aV n then false :: iH t m (aV n) else true :: iH t (m - aV n) (n - aV n)) else []
def kQ:Nat→Nat→Nat→Bool→Bool
 | 0,_,_,w=>w
 | t+1,m,n,w=>if m < n then (if m≤aV n then kQ t m (aV n) w else kQ t (m - aV n) (n - aV n) false) else w
def qI (x0:List UInt8) (B:List Bool) (D:Nat→List UInt8):Nat→List UInt8 × List UInt8
 | 0=>(x0,x0)
 | k+1=>if B[k]?.getD false then (dE 2 [D k,(qI x0 B D k).1],dE 2 [D k,(qI x0 B D k).2]) else ((qI x0 B D k).1,dE 2 [(qI x0 B D k).2,D k])
theorem Lo (x0:List UInt8) (B:List Bool) (b:Bool) (D:Nat→List UInt8):∀ k,k≤B.length→qI x0 (B++[b]) D k=qI x0 B D k
 | 0,_=>rfl
 | k+1,h=>by
  simp only[qI]
  rw[Lo x0 B b D k (by omega),List.getElem?_append_left (by omega)]
def pG:Nat→List UInt8→Nat→Nat→Bool→List UInt8→Nat→List UInt8 × List UInt8 × Bool
 | 0,_,_,_,_,_,_=>(bY,bY,false)
 | t+1,old,m,n,w,X,c=>
  if m=n∧w=true then (old,old,c==0) else
  if c=0 then (bY,bY,false) else
  if m=n then (d8 X (c - 1),d8 X (c - 1),c - 1==0) else
  if m≤aV n then ((pG t old m (aV n) w X (c - 1)).1,dE 2 [(pG t old m (aV n) w X (c - 1)).2.1,d8 X (c - 1)],(pG t old m (aV n) w X (c - 1)).2.2)
  else (dE 2 [d8 X (c - 1),(pG t old (m - aV n) (n - aV n) false X (c - 1)).1],dE 2 [d8 X (c - 1),(pG t old (m - aV n) (n - aV n) false X (c - 1)).2.1],(pG t old (m - aV n) (n - aV n) false X (c - 1)).2.2)
def Qy (w:Bool) (old X:List UInt8):List UInt8:=if w then old else d8 X 0
def Gg (w:Bool):Nat:=if w then 0 else 1
theorem JJ (x0:List UInt8) (B:List Bool) (b:Bool) (D:Nat→List UInt8) :
  qI x0 (B++[b]) D (B.length+1)=if b then (dE 2 [D B.length,(qI x0 B D B.length).1],dE 2 [D B.length,(qI x0 B D B.length).2]) else ((qI x0 B D B.length).1,dE 2 [(qI x0 B D B.length).2,D B.length]):=by
 simp only[qI]
 rw[Lo _ _ _ _ _ (Nat.le_refl _)]
 simp
theorem Yx (old X:List UInt8):∀ (t m n:Nat) (w:Bool) (c:Nat),1≤m→m≤n→n≤2 ^ t →
  ((pG (t+1) old m n w X c).2.2=true↔c=(iH (t+1) m n).length+Gg (kQ (t+1) m n w)) ∧
  (c=(iH (t+1) m n).length+Gg (kQ (t+1) m n w) →
   (pG (t+1) old m n w X c).1=(qI (Qy (kQ (t+1) m n w) old X) (iH (t+1) m n).reverse (fun k=>d8 X (k+Gg (kQ (t+1) m n w))) (iH (t+1) m n).length).1 ∧
   (pG (t+1) old m n w X c).2.1=(qI (Qy (kQ (t+1) m n w) old X) (iH (t+1) m n).reverse (fun k=>d8 X (k+Gg (kQ (t+1) m n w))) (iH (t+1) m n).length).2):=by
 have base:∀ (t m n:Nat) (w:Bool) (c:Nat),m=n →
  ((pG (t+1) old m n w X c).2.2=true↔c=(iH (t+1) m n).length+Gg (kQ (t+1) m n w)) ∧
  (c=(iH (t+1) m n).length+Gg (kQ (t+1) m n w) →
   (pG (t+1) old m n w X c).1=(qI (Qy (kQ (t+1) m n w) old X) (iH (t+1) m n).reverse (fun k=>d8 X (k+Gg (kQ (t+1) m n w))) (iH (t+1) m n).length).1 ∧
   (pG (t+1) old m n w X c).2.1=(qI (Qy (kQ (t+1) m n w) old X) (iH (t+1) m n).reverse (fun k=>d8 X (k+Gg (kQ (t+1) m n w))) (iH (t+1) m n).length).2):=by
  intro t m n w c h
  subst h
  have e1:iH (t+1) m m=[]:=by simp[iH]
  have e2:kQ (t+1) m m w=w:=by simp[kQ]
  rw[e1,e2]
  cases w with
  | true=>simp[pG,Gg,Qy,qI]
  | false=>
   by_cases hc:c=0
   ·subst hc;simp[pG,Gg]
   ·have:(c - 1==0)=true↔c=1:=by simp;omega
    simp only[pG,Gg,Qy,qI]
    simp[hc]
    refine⟨by omega,fun h=>by rw[h];exact⟨rfl,rfl⟩⟩
 intro t
 induction t with
 | zero=>
  intro m n w c h1 h2 h3
  exact base 0 m n w c (by omega)
 | succ t ih=>
  intro m n w c h1 h2 h3
  by_cases hmn:m=n
  ·exact base _ m n w c hmn
  have hlt:m < n:=by omega
  have k1:=jI (n:=n) (by omega)
  have k2:=C4 (n:=n) (by omega)
  have k3:=Ag (t:=t) (n:=n) (by omega) h3
  by_cases hk:m≤aV n
  ·have eB:iH (t+1+1) m n=false :: iH (t+1) m (aV n):=by rw[iH,if_pos hlt,if_pos hk]
   have eW:kQ (t+1+1) m n w=kQ (t+1) m (aV n) w:=by rw[kQ,if_pos hlt,if_pos hk]
   rw[eB,eW]
   obtain⟨i1,i2⟩:=ih m (aV n) w (c - 1) h1 hk k3
   generalize kQ (t+1) m (aV n) w=W at *
   have hl:(false :: iH (t+1) m (aV n)).length=(iH (t+1) m (aV n)).reverse.length+1:=by simp
   rw[hl,List.reverse_cons,JJ]
   rw[← List.length_reverse] at i1 i2
   generalize (iH (t+1) m (aV n)).reverse=B at *
   by_cases hc:c=0
   ·subst hc
    rw[pG,if_neg (fun h=>hmn h.1),if_pos rfl]
    exact⟨⟨fun h=>absurd h (by decide),fun h=>by omega⟩,fun h=>by omega⟩
   ·rw[pG,if_neg (fun h=>hmn h.1),if_neg hc,if_neg hmn,if_pos hk]
    refine⟨⟨fun h=>?_,fun h=>?_⟩,fun h=>?_⟩
    ·have:=i1.1 h;omega
    ·exact i1.2 (by omega)
    ·obtain⟨j1,j2⟩:=i2 (by omega)
     simp only[Bool.false_eq_true,if_false]
     rw[j1,j2,show c - 1=B.length+Gg W by omega]
     exact⟨rfl,rfl⟩
  ·have eB:iH (t+1+1) m n=true :: iH (t+1) (m - aV n) (n - aV n):=by rw[iH,if_pos hlt,if_neg hk]
   have eW:kQ (t+1+1) m n w=kQ (t+1) (m - aV n) (n - aV n) false:=by rw[kQ,if_pos hlt,if_neg hk]
   rw[eB,eW]
   obtain⟨i1,i2⟩:=ih (m - aV n) (n - aV n) false (c - 1) (by omega) (by omega) (by omega)
   generalize kQ (t+1) (m - aV n) (n - aV n) false=W at *
   have hl:(true :: iH (t+1) (m - aV n) (n - aV n)).length=(iH (t+1) (m - aV n) (n - aV n)).reverse.length+1:=by simp
   rw[hl,List.reverse_cons,JJ]
   rw[← List.length_reverse] at i1 i2
   generalize (iH (t+1) (m - aV n) (n - aV n)).reverse=B at *
   by_cases hc:c=0
   ·subst hc
    rw[pG,if_neg (fun h=>hmn h.1),if_pos rfl]
    exact⟨⟨fun h=>absurd h (by decide),fun h=>by omega⟩,fun h=>by omega⟩
   ·rw[pG,if_neg (fun h=>hmn h.1),if_neg hc,if_neg hmn,if_neg hk]
    refine⟨⟨fun h=>?_,fun h=>?_⟩,fun h=>?_⟩
    ·have:=i1.1 h;omega
    ·exact i1.2 (by omega)
    ·obtain⟨j1,j2⟩:=i2 (by omega)
     simp only[if_true]
     rw[j1,j2,show c - 1=B.length+Gg W by omega]
     exact⟨rfl,rfl⟩
theorem Ah:∀ (t m n:Nat),(iH t m n).length≤t
 | 0,_,_=>Nat.le_refl _
 | t+1,m,n=>by
  simp only[iH]
  have:=Ah t
  split
  ·split
   ·have:=Ah t m (aV n);simp;omega
   ·have:=Ah t (m - aV n) (n - aV n);simp;omega
  ·simp
def Mo (old mP:List UInt8) (m n:Nat) (X:List UInt8) (c:Nat):Bool:=
 (pG 33 old m n true X c).2.2 && ((pG 33 old m n true X c).1==old && (pG 33 old m n true X c).2.1==mP)
def tN (n:Nat) (X:List UInt8):List UInt8:=
 if h:2≤n then dE 2 [tN (aV n) (X.take (16 * aV n)),tN (n - aV n) (X.drop (16 * aV n))] else if n=1 then dE 1 [X] else dE 1 []
 termination_by n
 decreasing_by
  ·exact jI h
  ·have:=jW n;omega
theorem lF (n:Nat) (X:List UInt8):(tN n X).length=16:=by
 rw[tN]
 split
 ·exact bK _ _
 ·split <;> exact bK _ _
theorem C5 {n:Nat} (X:List UInt8) (h:2≤n):tN n X=dE 2 [tN (aV n) (X.take (16 * aV n)),tN (n - aV n) (X.drop (16 * aV n))]:=by
 rw[tN,dif_pos h]
theorem Sy (X:List UInt8):tN 1 X=dE 1 [X]:=by rw[tN,dif_neg (by decide),if_pos rfl]
theorem Gh (X:List UInt8):tN 0 X=dE 1 []:=by rw[tN,dif_neg (by decide),if_neg (by decide)]
def pF (m n:Nat) (w:Bool) (X:List UInt8):List UInt8:=
 if h:1≤m∧m < n then
  if m≤aV n then pF m (aV n) w (X.take (16 * aV n))++tN (n - aV n) (X.drop (16 * aV n))
  else pF (m - aV n) (n - aV n) false (X.drop (16 * aV n))++tN (aV n) (X.take (16 * aV n))
 else if w then [] else tN n X
 termination_by n
 decreasing_by
  ·exact jI (by omega)
  ·have:=jW n;omega
theorem Gi {m n:Nat} {w:Bool} {X:List UInt8} (h1:1≤m) (h:m < n) (hk:m≤aV n):pF m n w X=pF m (aV n) w (X.take (16 * aV n))++tN (n - aV n) (X.drop (16 * aV n)):=by
 rw[pF,dif_pos ⟨h1,h⟩,if_pos hk]
theorem Gj {m n:Nat} {w:Bool} {X:List UInt8} (h1:1≤m) (h:m < n) (hk:¬ m≤aV n):pF m n w X=pF (m - aV n) (n - aV n) false (X.drop (16 * aV n))++tN (aV n) (X.take (16 * aV n)):=by
 rw[pF,dif_pos ⟨h1,h⟩,if_neg hk]
theorem Qm {n:Nat} {X:List UInt8}:pF n n true X=[]:=by rw[pF,dif_neg (by omega),if_pos rfl]
theorem Jz {n:Nat} {X:List UInt8}:pF n n false X=tN n X:=by rw[pF,dif_neg (by omega),if_neg (by decide)]
def iE (m n:Nat) (w:Bool):Nat:=
 if h:1≤m∧m < n then
  if m≤aV n then iE m (aV n) w+1 else iE (m - aV n) (n - aV n) false+1
 else if w then 0 else 1
 termination_by n
 decreasing_by
  ·exact jI (by omega)
  ·have:=jW n;omega
theorem Ai {m n:Nat} {w:Bool} (h1:1≤m) (h:m < n) (hk:m≤aV n):iE m n w=iE m (aV n) w+1:=by
 rw[iE,dif_pos ⟨h1,h⟩,if_pos hk]
theorem Aj {m n:Nat} {w:Bool} (h1:1≤m) (h:m < n) (hk:¬ m≤aV n):iE m n w=iE (m - aV n) (n - aV n) false+1:=by
 rw[iE,dif_pos ⟨h1,h⟩,if_neg hk]
theorem Gk {n:Nat}:iE n n true=0:=by rw[iE,dif_neg (by omega),if_pos rfl]
theorem Gl {n:Nat}:iE n n false=1:=by rw[iE,dif_neg (by omega),if_neg (by decide)]
theorem xR:∀ (n m:Nat) (w:Bool) (X:List UInt8),1≤m→m≤n→(pF m n w X).length=16 * iE m n w:=by
 intro n
 induction n using Nat.strongRecOn with
 | ind n ih=>
  intro m w X h1 h2
  by_cases hmn:m=n
  ·subst hmn
   cases w
   ·rw[Jz,Gl,lF]
   ·rw[Qm,Gk];rfl
  have hlt:m < n:=by omega
  have k1:=jI (n:=n) (by omega)
  have k0:=jW n
  by_cases hk:m≤aV n
  ·rw[Gi h1 hlt hk,Ai h1 hlt hk,List.length_append,ih _ k1 m w _ h1 hk,lF];omega
  ·rw[Gj h1 hlt hk,Aj h1 hlt hk,List.length_append,ih _ (by omega) (m - aV n) false _ (by omega) (by omega),lF];omega
theorem CYa {A B:List UInt8} {k:Nat} (h:16 * (k+1)≤A.length):d8 (A++B) k=d8 A k:=by
 unfold d8
 rw[List.drop_append_of_le_length (by omega),List.take_append_of_le_length (by rw[List.length_drop];omega)]
theorem JK {A B:List UInt8} {k:Nat} (h:A.length=16 * k) (hB:B.length=16):d8 (A++B) k=B:=by
 unfold d8
 rw[List.drop_left' h]
 exact List.take_of_length_le (by omega)
theorem C6 (A B:List UInt8):∀ (t:Nat) (old:List UInt8) (m n:Nat) (w:Bool) (c:Nat),16 * c≤A.length→pG t old m n w (A++B) c=pG t old m n w A c
 | 0,_,_,_,_,_,_=>rfl
 | t+1,old,m,n,w,c,h=>by
  by_cases hc:c=0
  ·simp only[pG,hc,if_true]
  ·have p:d8 (A++B) (c - 1)=d8 A (c - 1):=CYa (by omega)
   have i1:=C6 A B t old m (aV n) w (c - 1) (by omega)
   have i2:=C6 A B t old (m - aV n) (n - aV n) false (c - 1) (by omega)
   simp only[pG,p,i1,i2]
theorem Vj:∀ (t n m:Nat) (w:Bool) (X old:List UInt8),1≤m→m≤n→n≤2 ^ t→X.length=16 * n→(w=true→old=tN m (X.take (16 * m))) →
  pG (t+1) old m n w (pF m n w X) (iE m n w)=(tN m (X.take (16 * m)),tN n X,true):=by
 have base:∀ (t n:Nat) (w:Bool) (X old:List UInt8),X.length=16 * n→(w=true→old=tN n (X.take (16 * n))) →
   pG (t+1) old n n w (pF n n w X) (iE n n w)=(tN n (X.take (16 * n)),tN n X,true):=by
  intro t n w X old hX ho
  have tx:X.take (16 * n)=X:=List.take_of_length_le (by omega)
  rw[tx] at ho ⊢
  cases w with
  | true=>rw[Qm,Gk,pG,if_pos ⟨rfl,rfl⟩,ho rfl];rfl
  | false=>
   rw[Jz,Gl,pG,if_neg (fun h=>by cases h.2),if_neg (by decide),if_pos rfl]
   have:d8 (tN n X) (1 - 1)=tN n X:=List.take_of_length_le (by rw[List.length_drop,lF];omega)
   rw[this];rfl
 intro t
 induction t with
 | zero=>
  intro n m w X old h1 h2 h3 hX ho
  obtain rfl:m=n:=by omega
  exact base 0 m w X old hX ho
 | succ t ih=>
  intro n m w X old h1 h2 h3 hX ho
  by_cases hmn:m=n
  ·subst hmn;exact base _ m w X old hX ho
  have hlt:m < n:=by omega
  have k0:=jW n
  have k1:=jI (n:=n) (by omega)
  have k2:=C4 (n:=n) (by omega)
  have k3:=Ag (t:=t) (n:=n) (by omega) h3
  by_cases hk:m≤aV n
  ·have lt:=xR (aV n) m w (X.take (16 * aV n)) h1 hk
   have tt:(X.take (16 * aV n)).take (16 * m)=X.take (16 * m):=by rw[List.take_take,Nat.min_eq_left (by omega)]
   have i:=ih (aV n) m w (X.take (16 * aV n)) old h1 hk k3 (by rw[List.length_take];omega) (by rw[tt];exact ho)
   rw[tt] at i
   rw[Gi h1 hlt hk,Ai h1 hlt hk,pG,if_neg (fun h=>hmn h.1),if_neg (by omega),if_neg hmn,if_pos hk,Nat.add_sub_cancel,C6 _ _ _ _ _ _ _ _ (by omega),i,JK lt (lF _ _),
    ← C5 X (by omega)]
  ·have lt:=xR (n - aV n) (m - aV n) false (X.drop (16 * aV n)) (by omega) (by omega)
   have i:=ih (n - aV n) (m - aV n) false (X.drop (16 * aV n)) old (by omega) (by omega) (by omega) (by rw[List.length_drop];omega) (fun h=>by cases h)
   have em:aV m=aV n:=Ln (k:=Nat.log2 (n - 1)) (by unfold aV at hk;omega) (by unfold aV at *;omega)
   have e1:X.take (16 * aV n)=(X.take (16 * m)).take (16 * aV m):=by rw[em,List.take_take,Nat.min_eq_left (by omega)]
   have e2:(X.drop (16 * aV n)).take (16 * (m - aV n))=(X.take (16 * m)).drop (16 * aV m):=by rw[em,List.drop_take,Nat.mul_sub]
   rw[Gj h1 hlt hk,Aj h1 hlt hk,pG,if_neg (fun h=>hmn h.1),if_neg (by omega),if_neg hmn,if_neg hk,Nat.add_sub_cancel,C6 _ _ _ _ _ _ _ _ (by omega),i,JK lt (lF _ _)]
   rw[← C5 X (by omega),e2,e1,← em,← C5 (X.take (16 * m)) (by omega)]
variable {tS:List (Nat × List SV)}
theorem Gm {v j:Nat} (h:1≤v / 2 ^ j):Nat.log2 v=Nat.log2 (v / 2 ^ j)+j:=by
 have hp:=Nat.two_pow_pos j
 have hv:v≠0:=fun h0=>by subst h0;rw[Nat.zero_div] at h;omega
 obtain⟨a,b⟩:=(Nat.log2_eq_iff (n:=v / 2 ^ j) (k:=Nat.log2 (v / 2 ^ j)) (by omega)).1 rfl
 refine (Nat.log2_eq_iff hv).2 ⟨?_,?_⟩
 ·rw[Nat.pow_add]
  exact Nat.le_trans (Nat.mul_le_mul_right _ a) (Nat.div_mul_le_self _ _)
 ·rw[Nat.add_right_comm,Nat.pow_add]
  exact (Nat.div_lt_iff_lt_mul hp).1 b
theorem Gn {T:List UInt8} (hT:∀ i:Fin 256,T[i.val]?=some (UInt8.ofNat (if i.val=0 then 0 else Nat.log2 i.val+1))) {q v d:Nat} (h1:1≤q) (h:q < 256) (hd:d≤24) (hv:Nat.log2 v=Nat.log2 q+d) {x:Int} (hx:x=(q:Int)) :
  0≤IntKind.u8.wrap x∧match T[(IntKind.u8.wrap x).toNat]? with
   | some c=>(match SV.byte c with
    | .int _ a=>IntKind.i64.wrap ((d:Int)+IntKind.i64.wrap a)=((Nat.log2 v+1:Nat):Int)
    | _=>False)
   | none=>False:=by
 have l8:Nat.log2 q < 8:=(Nat.log2_lt (by omega)).2 h
 have hw:IntKind.u8.wrap x=(q:Int):=by
  subst hx
  simp[IntKind.wrap,IntKind.bits,IntKind.signed];omega
 rw[hw,Int.toNat_natCast,hT ⟨q,h⟩]
 refine⟨by omega,?_⟩
 simp only
 rw[if_neg (by omega)]
 show IntKind.i64.wrap ((d:Int)+IntKind.i64.wrap (((UInt8.ofNat (Nat.log2 q+1)).toNat:Nat):Int))=_
 rw[show (UInt8.ofNat (Nat.log2 q+1)).toNat=Nat.log2 q+1 by rw[UInt8.toNat_ofNat'];omega,aD (x:=((Nat.log2 q+1:Nat):Int)) (by omega) (by omega),aD (by omega) (by omega),hv]
 omega
theorem Yy (v j:Nat) (h:j≤64):(v:Int).fdiv (2 ^ min j IntKind.u64.bits)=((v / 2 ^ j:Nat):Int):=by
 rw[show min j IntKind.u64.bits=j from Nat.min_eq_left h,show ((2:Int) ^ j)=((2 ^ j:Nat):Int) by simp,Int.fdiv_eq_ediv_of_nonneg _ (Int.natCast_nonneg _)]
 rfl
theorem ABi (v:Nat) (h1:1≤v) (hv:v < 4294967296):Fun Tryz.prog tS 161 [.int .u64 (v:Int)] [] 0 (.int .i64 ((Nat.log2 v+1:Nat):Int)) [] 0:=by
 refine dK Tryz.f161 (by kernel_rfl) (fun _=>rfl) ?_
 conv in aJ _ _=>(reduce;simp only[aH,seval])
 have c1:¬ (v:Int) ≥ 4294967296:=by omega
 have s16:=Yy v 16 (by decide)
 have s8:=fun v=>Yy v 8 (by decide)
 by_cases c2:(v:Int) ≥ 65536
 ·by_cases c3:((v / 2 ^ 16:Nat):Int) ≥ 256
  ·have c4:=eq_true c3
   simp only[c1,c2,s16,c4,s8,NV,↓NP,seval]
   refine Gn ?_ (q:=v / 2 ^ 16 / 2 ^ 8) (d:=24) (by omega) (by omega) (by decide) ?_ rfl
   ·decide +kernel
   rw[Gm (v:=v) (j:=16) (by omega),Gm (v:=v / 2 ^ 16) (j:=8) (by omega)]
  ·have c4:=eq_false c3
   simp only[c1,c2,s16,c4,NV,↓NP,seval]
   refine Gn ?_ (q:=v / 2 ^ 16) (d:=16) (by omega) (by omega) (by decide) (Gm (by omega)) rfl;decide +kernel
 ·by_cases c3:(v:Int) ≥ 256
  ·simp only[c1,c2,c3,s8,NV,↓NP,seval]
   refine Gn ?_ (q:=v / 2 ^ 8) (d:=8) (by omega) (by omega) (by decide) (Gm (by omega)) rfl;decide +kernel
  ·simp only[c1,c2,c3,NV,↓NP,seval]
   refine Gn ?_ (q:=v) (d:=0) h1 (by omega) (by decide) rfl rfl;decide +kernel
theorem ABj (v:Nat) (h1:1≤v) (hv:v < 4294967296):Fun Tryz.prog tS 144 [.int .u64 (v:Int)] [] 0 (.int .i64 ((Nat.log2 v+1:Nat):Int)) [] 0:=by
 refine dK Tryz.f144 (by kernel_rfl) (fun _=>rfl) ?_
 conv in aJ _ _=>(reduce;simp only[aH,seval])
 simp only[NV,↓NP,seval]
 refine aE (ABi v h1 hv) ?_
 simp only[NV,↓NP,seval]
theorem ABk (n:Nat) (h2:2≤n) (hn:n≤4294967296):Fun Tryz.prog tS 110 [.int .i64 (n:Int)] [] 0 (.int .i64 ((aV n:Nat):Int)) [] 0:=by
 refine dK Tryz.f110 (by kernel_rfl) (fun _=>rfl) ?_
 conv in aJ _ _=>(reduce;simp only[aH,seval])
 have w1:IntKind.i64.wrap ((n:Int) - 1)=((n - 1:Nat):Int):=by rw[aD (by omega) (by omega)];omega
 have w2:IntKind.u64.wrap ((n - 1:Nat):Int)=((n - 1:Nat):Int):=by simp[IntKind.wrap,IntKind.bits,IntKind.signed];omega
 have f:=ABj (tS:=tS) (n - 1) (by omega) (by omega)
 have l32:Nat.log2 (n - 1) < 32:=(Nat.log2_lt (by omega)).2 (by omega)
 have w3:IntKind.i64.wrap (((Nat.log2 (n - 1)+1:Nat):Int) - 1)=((Nat.log2 (n - 1):Nat):Int):=by rw[aD (by omega) (by omega)];omega
 simp only[w1,w2,NV,↓NP,seval]
 refine aE f ?_
 simp only[w3,NV,↓NP,seval]
 have p:=jI h2
 refine⟨by omega,?_⟩
 rw[Nat.min_eq_left (show Nat.log2 (n - 1)≤IntKind.i64.bits from Nat.le_of_lt (Nat.lt_trans l32 (by decide))),Int.one_mul,show ((2:Int) ^ Nat.log2 (n - 1))=((aV n:Nat):Int) by simp[aV]]
 exact aD (by omega) (by omega)
theorem Yz (n:Nat) (h2:2≤n) (hn:n≤4294967296):Fun Tryz.prog tS 78 [.int .i64 (n:Int)] [] 0 (.int .i64 ((aV n:Nat):Int)) [] 0:=by
 refine dK Tryz.f78 (by kernel_rfl) (fun _=>rfl) ?_
 conv in aJ _ _=>(reduce;simp only[aH,seval])
 simp only[NV,↓NP,seval]
 rw[aL]
 refine bF (fun _ _ _ _ _ h=>h) (σ:=Nat) (fun j=>[(3,.int .i64 ((2 ^ j:Nat):Int)),(0,.int .i64 (n:Int))]) (fun _=>[]) (fun _=>0) (fun j=>2 ^ j < n) (fun j=>n - 2 ^ j) 0 ?_ (by show 1 < n;omega) ?_
 ·exact⟨[],by simp[NF],by simp[NF,seval]⟩
 intro j hj
 have e2:2 ^ (j+1)=2 ^ j+2 ^ j:=by rw[Nat.pow_succ];omega
 have hp:=Nat.two_pow_pos j
 have w1:IntKind.i64.wrap ((n:Int) - ((2 ^ j:Nat):Int))=(n:Int) - ((2 ^ j:Nat):Int):=aD (by omega) (by omega)
 have w2:IntKind.i64.wrap (2 * ((2 ^ j:Nat):Int))=((2 ^ (j+1):Nat):Int):=by rw[e2,aD (by omega) (by omega)];omega
 by_cases c:2 ^ j < n - 2 ^ j
 ·have c1:((2 ^ j:Nat):Int) < (n:Int) - ((2 ^ j:Nat):Int):=by omega
  simp only[w1,w2,c1,NV,↓NP,seval]
  exact⟨j+1,⟨[],by simp[NF],by simp[NF,seval]⟩,by omega,by omega⟩
 ·have c1:¬ ((2 ^ j:Nat):Int) < (n:Int) - ((2 ^ j:Nat):Int):=by omega
  have sp:=Ln hj (by omega)
  simp only[w1,c1,sp,NV,↓NP,seval]
def zZ (l:List Bool) (i:Nat):List Bool:=(List.range l.length).map fun k=>if k < i∨l.length - i≤k then l.getD (l.length - 1 - k) false else l.getD k false
theorem rN (l:List Bool) (i:Nat):(zZ l i).length=l.length:=by simp[zZ]
theorem uU (l:List Bool) (i k:Nat) (hk:k < l.length):(zZ l i)[k]?=some (if k < i∨l.length - i≤k then l.getD (l.length - 1 - k) false else l.getD k false):=by
 unfold zZ
 rw[List.getElem?_map,List.getElem?_range hk]
 rfl
theorem Mp (l:List Bool):zZ l 0=l:=by
 apply List.ext_getElem?
 intro k
 by_cases hk:k < l.length
 ·rw[uU l 0 k hk,if_neg (by omega),List.getD_eq_getElem?_getD,List.getElem?_eq_getElem hk];rfl
 ·rw[List.getElem?_eq_none (by rw[rN];omega),List.getElem?_eq_none (by omega)]
theorem Qn (l:List Bool) (i:Nat) (h:l.length≤i+i+1):zZ l i=l.reverse:=by
 apply List.ext_getElem?
 intro k
 by_cases hk:k < l.length
 ·rw[uU l i k hk,List.getElem?_reverse hk]
  by_cases c:k < i∨l.length - i≤k
  ·rw[if_pos c,List.getD_eq_getElem?_getD,List.getElem?_eq_getElem (by omega)];rfl
  ·rw[if_neg c,List.getD_eq_getElem?_getD,show l.length - 1 - k=k by omega,List.getElem?_eq_getElem hk];rfl
 ·rw[List.getElem?_eq_none (by rw[rN];omega),List.getElem?_eq_none (by rw[List.length_reverse];omega)]
theorem Mq (l:List Bool) (i:Nat) (h:i+i+1 < l.length):((zZ l i).set i (l.getD (l.length - 1 - i) false)).set (l.length - 1 - i) (l.getD i false)=zZ l (i+1):=by
 apply List.ext_getElem?
 intro k
 by_cases hk:k < l.length
 ·rw[uU l (i+1) k hk,List.getElem?_set,List.length_set,rN,List.getElem?_set,rN,uU l i k hk]
  by_cases c1:l.length - 1 - i=k
  ·rw[if_pos c1,if_pos (by omega),if_pos (by omega),show l.length - 1 - k=i by omega]
  ·rw[if_neg c1]
   by_cases c2:i=k
   ·subst c2;rw[if_pos rfl,if_pos (by omega),if_pos (by omega)]
   ·rw[if_neg c2]
    by_cases c3:k < i∨l.length - i≤k
    ·rw[if_pos c3,if_pos (by omega)]
    ·rw[if_neg c3,if_neg (by omega)]
 ·rw[List.getElem?_eq_none (by rw[List.length_set,List.length_set,rN];omega),List.getElem?_eq_none (by rw[rN];omega)]
theorem KA {l:List SV} {i:Nat} {v:SV} (h:i < l.length):aF l i [v]=l.set i v:=by
 unfold aF
 rw[List.set_eq_take_append_cons_drop,if_pos h]
 simp
theorem FZ {l:List Bool} {i:Nat} {b:Bool} (h:i < l.length):aF (tM l) i [.bool b]=tM (l.set i b):=by
 rw[KA (by rw[gN];exact h)]
 simp[tM,List.map_set]
theorem KB {l:List Bool} {i:Nat} (h:i < l.length):(tM l)[i]?=some (.bool (l.getD i false)):=by
 unfold tM
 rw[List.getElem?_map,List.getElem?_eq_getElem h,List.getD_eq_getElem?_getD,List.getElem?_eq_getElem h]
 rfl
theorem ABl (l:List Bool) (hl:l.length≤1000):Fun Tryz.prog tS 112 [.slc 0 0 1 l.length none] [(0,⟨.own 4,tM l⟩)] 1 (.tup []) [(0,⟨.own 4,tM l.reverse⟩)] 1:=by
 refine fV Tryz.f112 (by kernel_rfl) (by decide) ?_
 conv in aJ _ _=>(reduce;simp only[aH,seval])
 have w0:IntKind.i64.wrap ((l.length:Int) - 1)=(l.length:Int) - 1:=aD (by omega) (by omega)
 simp only[w0,NV,↓NP,seval]
 rw[aL]
 refine bF (fun _ _ _ _ _ h=>h) (σ:=Nat) (fun i=>[(3,.int .i64 ((l.length:Int) - 1 - (i:Int))),(2,.int .i64 (i:Int)),(0,.slc 0 0 1 l.length none)]) (fun i=>[(0,⟨.own 4,tM (zZ l i)⟩)]) (fun _=>1)
  (fun i=>i+i≤l.length) (fun i=>l.length - i) 0 ?_ (Nat.zero_le _) ?_
 ·exact⟨[(0,0)],by simp[Mp,cZ,NF,seval],by simp[NF,seval]⟩
 intro i hi
 by_cases c:i+i+1 < l.length
 ·have lk:=rN l i
  have w1:IntKind.i64.wrap ((i:Int)+1)=((i+1:Nat):Int):=by rw[aD (by omega) (by omega)];omega
  have w2:IntKind.i64.wrap (((l.length - 1 - i:Nat):Int) - 1)=(l.length:Int) - 1 - ((i+1:Nat):Int):=by rw[aD (by omega) (by omega)];omega
  have e1:(l.length:Int) - 1 - (i:Int)=((l.length - 1 - i:Nat):Int):=by omega
  have c1:(i:Int) < ((l.length - 1 - i:Nat):Int):=by omega
  have k1:i < l.length:=by omega
  have k2:l.length - 1 - i < l.length:=by omega
  have k3:i+1≤l.length:=by omega
  have k4:l.length - 1 - i+1≤l.length:=by omega
  have k5:(i:Int) < (l.length:Int):=by omega
  have k6:((l.length - 1 - i:Nat):Int) < (l.length:Int):=by omega
  have k7:∀ q:Nat,(0:Int)≤(q:Int):=fun q=>by omega
  have g1:(tM (zZ l i))[i]?=some (.bool (l.getD i false)):=by
   rw[KB (by omega),List.getD_eq_getElem?_getD,uU l i i (by omega),if_neg (by omega)];rfl
  have g2:(tM (zZ l i))[l.length - 1 - i]?=some (.bool (l.getD (l.length - 1 - i) false)):=by
   rw[KB (by omega),List.getD_eq_getElem?_getD,uU l i _ (by omega),if_neg (by omega)];rfl
  have s1:=fun b=>FZ (l:=zZ l i) (i:=i) (b:=b) (by omega)
  have s2:=fun b b'=>FZ (l:=(zZ l i).set i b) (i:=l.length - 1 - i) (b:=b') (by rw[List.length_set];omega)
  have s3:=Mq l i c
  have b1:=gN (zZ l i)
  have b2:=fun b=>gN ((zZ l i).set i b)
  simp only[c1,e1,k1,k2,k3,k4,k5,k6,k7,lk,g1,g2,s1,s2,s3,b1,b2,w1,w2,List.length_set,NV,↓NP,Ei,cV,jC,touch,clear,eV,lZ,bC,seval]
  exact⟨i+1,⟨[(0,0)],by simp[cZ,NF,seval],by simp[NF,seval]⟩,by omega,by omega⟩
 ·have c1:¬ (i:Int) < (l.length:Int) - 1 - (i:Int):=by omega
  have e:=Qn l i (by omega)
  simp only[c1,e,NV,↓NP,seval]
  exact⟨[(0,0)],by simp[cZ,NF,seval]⟩
def kC (x y:List UInt8) (ok:Bool):List SV:=aB x++(aB y++[.bool ok])
theorem gH {x y:List UInt8} {ok:Bool} (hx:x.length=16) (hy:y.length=16):(kC x y ok).length=33:=by simp[kC,aA,hx,hy]
def JL:List SV:=List.replicate 32 (.int .u8 0)++[.bool false]
theorem Vk:JL=kC bY bY false:=rfl
theorem Sz {x:List UInt8} (hx:x.length=16):aF JL 0 (aB x)=kC x bY false:=by
 rw[Vk]
 unfold aF kC
 rw[List.take_zero,List.nil_append,Nat.zero_add,List.drop_left' (by rw[aA,aA,hx];rfl)]
theorem TA {x y:List UInt8} (hx:x.length=16) (hy:y.length=16):aF (kC x bY false) 16 (aB y)=kC x y false:=by
 unfold aF kC
 rw[List.take_left' (by rw[aA,hx]),aA,hy,← List.drop_drop,List.drop_left' (by rw[aA,hx]),List.drop_left' (by rw[aA];rfl),List.append_assoc]
theorem TB {x y:List UInt8} {b:Bool} (hx:x.length=16) (hy:y.length=16):aF (kC x y false) 32 [.bool b]=kC x y b:=by
 unfold aF kC
 have h:(aB x++aB y).length=32:=by rw[List.length_append,aA,aA,hx,hy]
 rw[← List.append_assoc,List.take_left' h,← List.drop_drop,List.drop_left' h,← List.append_assoc]
 simp
theorem EX (η:Nat→Nat × Nat) (x y:List UInt8) (b:Bool):SV.renL η (kC x y b)=kC x y b:=by
 refine SV.flatL_ren η _ ?_
 have:∀ l m:List SV,SV.flatL (l++m)=(SV.flatL l && SV.flatL m):=fun l m=>by
  induction l with
  | nil=>rfl
  | cons a l ih=>simp[SV.flatL,ih,Bool.and_assoc]
 unfold kC
 rw[this,this,aX,aX];rfl
def ABm (t:Nat):Prop:=∀ (old:List UInt8) (m n:Nat) (w:Bool) (X:List UInt8) (c:Nat),old.length=16→1≤m→m≤n→n≤2 ^ t→16 * c≤X.length→c≤1000 →
 Fun Tryz.prog aO 113 [.agg (aB old),.int .i64 (m:Int),.int .i64 (n:Int),.bool w,.slc 0 0 16 c none] [(0,⟨.view,aB X⟩)] 1
  (.agg (kC (pG (t+1) old m n w X c).1 (pG (t+1) old m n w X c).2.1 (pG (t+1) old m n w X c).2.2)) [] 1
theorem ZA (old:List UInt8) (n c:Nat) (X:List UInt8) (ho:old.length=16) :
  Fun Tryz.prog aO 113 [.agg (aB old),.int .i64 (n:Int),.int .i64 (n:Int),.bool true,.slc 0 0 16 c none] [(0,⟨.view,aB X⟩)] 1 (.agg (kC old old (c==0))) [] 1:=by
 refine dK Tryz.f113 (by kernel_rfl) (fun η=>by simp only[SV.ren,EX]) ?_
 conv in aJ _ _=>(reduce;simp only[aH,seval])
 have p1:=Sz ho
 have p2:=TA ho ho
 have p3:=fun b=>TB (b:=b) ho ho
 have p4:=fun b=>b9 (a:=JL) (b:=kC old old b) (gH ho ho)
 have pl:=fun {x y:List UInt8} {ok:Bool} (hx:x.length=16) (hy:y.length=16)=>gH (ok:=ok) hx hy
 have pt:=fun b=>List.take_of_length_le (Nat.le_of_eq (gH (ok:=b) ho ho))
 simp only[JL,List.replicate_succ,List.replicate_zero,List.cons_append,List.nil_append] at p1 p4
 have lz:bY.length=16:=rfl
 have lo:(aB old).length=16:=by rw[aA,ho]
 have cc:((c:Int)==0)=(c==0):=by rw[Bool.eq_iff_iff];simp
 simp only[p1,p2,p3,p4,pl,pt,lo,ho,lz,cc,NV,↓NP,bC,seval]
theorem Tl (old:List UInt8) (m n:Nat) (w:Bool) (X:List UInt8) (ho:old.length=16) (hc:¬ (m=n∧w=true)) :
  Fun Tryz.prog aO 113 [.agg (aB old),.int .i64 (m:Int),.int .i64 (n:Int),.bool w,.slc 0 0 16 0 none] [(0,⟨.view,aB X⟩)] 1 (.agg (kC bY bY false)) [] 1:=by
 refine dK Tryz.f113 (by kernel_rfl) (fun η=>by simp only[SV.ren,EX]) ?_
 conv in aJ _ _=>(reduce;simp only[aH,seval])
 have e:JL=kC bY bY false:=rfl
 have pl:=gH (x:=bY) (y:=bY) (ok:=false) rfl rfl
 have p4:=b9 (a:=JL) (b:=kC bY bY false) pl
 have pt:=List.take_of_length_le (Nat.le_of_eq pl)
 rw[← e] at p4 pt ⊢
 simp only[JL,List.replicate_succ,List.replicate_zero,List.cons_append,List.nil_append] at p4 pt ⊢
 by_cases h1:m=n
 ·subst h1
  have hw:w=false:=by simpa using hc
  subst hw
  simp only[p4,pt,NV,↓NP,bC,seval]
 ·have c1:((m:Int)==(n:Int))=false:=by simp;omega
  simp only[p4,pt,c1,NV,↓NP,undef,bC,seval]
theorem oN {X:List UInt8} {d:Nat} (h:16 * (d+1)≤X.length):List.take 16 (List.drop (d * 16) (aB X))=aB (d8 X d)∧(d8 X d).length=16:=by
 unfold d8
 rw[Nat.mul_comm d 16]
 refine⟨by simp[aB,List.map_take,List.map_drop],?_⟩
 rw[List.length_take,List.length_drop];omega
theorem ZB (old:List UInt8) (n d:Nat) (X:List UInt8) (ho:old.length=16) (hX:16 * (d+1)≤X.length) (hd:d+1≤1000) :
  Fun Tryz.prog aO 113 [.agg (aB old),.int .i64 (n:Int),.int .i64 (n:Int),.bool false,.slc 0 0 16 (d+1) none] [(0,⟨.view,aB X⟩)] 1 (.agg (kC (d8 X d) (d8 X d) (d==0))) [] 1:=by
 refine dK Tryz.f113 (by kernel_rfl) (fun η=>by simp only[SV.ren,EX]) ?_
 conv in aJ _ _=>(reduce;simp only[aH,seval])
 obtain⟨g,lp⟩:=oN hX
 generalize d8 X d=P at *
 have p1:=Sz lp
 have p2:=TA lp lp
 have p3:=fun b=>TB (b:=b) lp lp
 have p4:=fun b=>b9 (a:=JL) (b:=kC P P b) (gH lp lp)
 have pl:=fun {x y:List UInt8} {ok:Bool} (hx:x.length=16) (hy:y.length=16)=>gH (ok:=ok) hx hy
 have pt:=fun b=>List.take_of_length_le (Nat.le_of_eq (gH (ok:=b) lp lp))
 simp only[JL,List.replicate_succ,List.replicate_zero,List.cons_append,List.nil_append] at p1 p4
 have lz:bY.length=16:=rfl
 have cc:((d:Int)==0)=(d==0):=by rw[Bool.eq_iff_iff];simp
 have w1:IntKind.i64.wrap (((d+1:Nat):Int) - 1)=(d:Int):=by rw[aD (by omega) (by omega)];omega
 have c0:(((d+1:Nat):Int)==0)=false:=by simp;omega
 have c1:(0:Int)≤(d:Int):=by omega
 have c2:(d:Int) < ((d+1:Nat):Int):=by omega
 have c3:(d:Int)≤((d+1:Nat):Int):=by omega
 have c4:d * 16+16≤X.length:=by omega
 simp only[p1,p2,p3,p4,pl,pt,lp,lz,cc,c0,c1,c2,c3,c4,w1,g,NV,↓NP,bC,seval]
 exact⟨by omega,by omega⟩
theorem EB {x y:List UInt8} {b:Bool} (hx:x.length=16) (hy:y.length=16):List.take 16 (kC x y b)=aB x∧List.take 16 (List.drop 16 (kC x y b))=aB y∧(kC x y b)[32]?=some (.bool b):=by
 unfold kC
 refine⟨List.take_left' (by rw[aA,hx]),?_,?_⟩
 ·rw[List.drop_left' (by rw[aA,hx]),List.take_left' (by rw[aA,hy])]
 ·have h:(aB x++aB y).length=32:=by rw[List.length_append,aA,aA,hx,hy]
  rw[← List.append_assoc,List.getElem?_append_right (by omega),h]
  rfl
theorem ZC (old x y:List UInt8) (m n d:Nat) (w b:Bool) (X:List UInt8) (ho:old.length=16) (hX:16 * (d+1)≤X.length) (hd:d+1≤1000) (h1:1≤m) (hmn:m < n) (hn:n≤4294967296) (hk:m≤aV n) (lx:x.length=16) (ly:y.length=16)
  (F:Fun Tryz.prog aO 113 [.agg (aB old),.int .i64 (m:Int),.int .i64 ((aV n:Nat):Int),.bool w,.slc 0 0 16 d none] [(0,⟨.view,aB X⟩)] 1 (.agg (kC x y b)) [] 1) :
  Fun Tryz.prog aO 113 [.agg (aB old),.int .i64 (m:Int),.int .i64 (n:Int),.bool w,.slc 0 0 16 (d+1) none] [(0,⟨.view,aB X⟩)] 1 (.agg (kC x (dE 2 [y,d8 X d]) b)) [] 1:=by
 refine dK Tryz.f113 (by kernel_rfl) (fun η=>by simp only[SV.ren,EX]) ?_
 conv in aJ _ _=>(reduce;simp only[aH,seval])
 have fs:=Yz (tS:=aO) n (by omega) hn
 obtain⟨g,lp⟩:=oN hX
 have fn:=Pi y (d8 X d) ly lp
 have lq:=bK 2 [y,d8 X d]
 generalize dE 2 [y,d8 X d]=Q at *
 generalize d8 X d=P at *
 generalize aV n=K at *
 have p1:=Sz lx
 have p2:=TA lx lq
 have p3:=TB (b:=b) lx lq
 have p4:=b9 (a:=JL) (b:=kC x Q b) (gH lx lq)
 have p5:=b9 (a:=JL) (b:=kC x y b) (gH lx ly)
 have pl:=fun {x y:List UInt8} {ok:Bool} (hx:x.length=16) (hy:y.length=16)=>gH (ok:=ok) hx hy
 have pt:=List.take_of_length_le (Nat.le_of_eq (gH (ok:=b) lx lq))
 obtain⟨t1,t2,t3⟩:=EB (b:=b) lx ly
 simp only[JL,List.replicate_succ,List.replicate_zero,List.cons_append,List.nil_append] at p1 p4 p5
 have lz:bY.length=16:=rfl
 have w1:IntKind.i64.wrap (((d+1:Nat):Int) - 1)=(d:Int):=by rw[aD (by omega) (by omega)];omega
 have c0:(((d+1:Nat):Int)==0)=false:=by simp;omega
 have c1:(0:Int)≤(d:Int):=by omega
 have c2:(d:Int) < ((d+1:Nat):Int):=by omega
 have c3:(d:Int)≤((d+1:Nat):Int):=by omega
 have c4:d * 16+16≤X.length:=by omega
 have c5:d * 16 < X.length:=by omega
 have c6:(d+1) * 16≤X.length:=by omega
 have c7:d * 16≤X.length:=by omega
 have e1:((m:Int)==(n:Int))=false:=by simp;omega
 have e2:(m:Int)≤(K:Int):=by omega
 simp only[lp,c0,c1,c2,c3,c4,c5,c6,w1,g,e1,NV,↓NP,undef,bC,seval]
 refine aE fs ?_
 simp only[ho,e2,NV,↓NP,seval]
 refine aI [(0,0)] F ?_
 simp only[EX,p5,pl,lp,lx,ly,t1,t2,NV,NJ,↓NP,bC,seval]
 refine aE fn ?_
 simp only[p1,p2,p3,p4,pl,pt,lq,lx,lz,t3,NV,↓NP,bC,seval]
theorem ZD (old x y:List UInt8) (m n d:Nat) (w b:Bool) (X:List UInt8) (ho:old.length=16) (hX:16 * (d+1)≤X.length) (hd:d+1≤1000) (h1:1≤m) (hmn:m < n) (hn:n≤4294967296) (hk:¬ m≤aV n) (lx:x.length=16) (ly:y.length=16)
  (F:Fun Tryz.prog aO 113 [.agg (aB old),.int .i64 ((m - aV n:Nat):Int),.int .i64 ((n - aV n:Nat):Int),.bool false,.slc 0 0 16 d none] [(0,⟨.view,aB X⟩)] 1 (.agg (kC x y b)) [] 1) :
  Fun Tryz.prog aO 113 [.agg (aB old),.int .i64 (m:Int),.int .i64 (n:Int),.bool w,.slc 0 0 16 (d+1) none] [(0,⟨.view,aB X⟩)] 1 (.agg (kC (dE 2 [d8 X d,x]) (dE 2 [d8 X d,y]) b)) [] 1:=by
 refine dK Tryz.f113 (by kernel_rfl) (fun η=>by simp only[SV.ren,EX]) ?_
 conv in aJ _ _=>(reduce;simp only[aH,seval])
 have fs:=Yz (tS:=aO) n (by omega) hn
 have kn:=jI (n:=n) (by omega)
 obtain⟨g,lp⟩:=oN hX
 have fn:=Pi (d8 X d) x lp lx
 have fn':=Pi (d8 X d) y lp ly
 have lq:=bK 2 [d8 X d,x]
 have lq':=bK 2 [d8 X d,y]
 generalize dE 2 [d8 X d,x]=Q at *
 generalize dE 2 [d8 X d,y]=Q' at *
 generalize d8 X d=P at *
 generalize aV n=K at *
 have p1:=Sz lq
 have p2:=TA lq lq'
 have p3:=TB (b:=b) lq lq'
 have p4:=b9 (a:=JL) (b:=kC Q Q' b) (gH lq lq')
 have p5:=b9 (a:=JL) (b:=kC x y b) (gH lx ly)
 have pl:=fun {x y:List UInt8} {ok:Bool} (hx:x.length=16) (hy:y.length=16)=>gH (ok:=ok) hx hy
 have pt:=List.take_of_length_le (Nat.le_of_eq (gH (ok:=b) lq lq'))
 obtain⟨t1,t2,t3⟩:=EB (b:=b) lx ly
 simp only[JL,List.replicate_succ,List.replicate_zero,List.cons_append,List.nil_append] at p1 p4 p5
 have lz:bY.length=16:=rfl
 have w1:IntKind.i64.wrap (((d+1:Nat):Int) - 1)=(d:Int):=by rw[aD (by omega) (by omega)];omega
 have w2:IntKind.i64.wrap ((m:Int) - (K:Int))=((m - K:Nat):Int):=by rw[aD (by omega) (by omega)];omega
 have w3:IntKind.i64.wrap ((n:Int) - (K:Int))=((n - K:Nat):Int):=by rw[aD (by omega) (by omega)];omega
 have c0:(((d+1:Nat):Int)==0)=false:=by simp;omega
 have c1:(0:Int)≤(d:Int):=by omega
 have c2:(d:Int) < ((d+1:Nat):Int):=by omega
 have c3:(d:Int)≤((d+1:Nat):Int):=by omega
 have c4:d * 16+16≤X.length:=by omega
 have c5:d * 16 < X.length:=by omega
 have c6:(d+1) * 16≤X.length:=by omega
 have c7:d * 16≤X.length:=by omega
 have e1:((m:Int)==(n:Int))=false:=by simp;omega
 have e2:¬ (m:Int)≤(K:Int):=by omega
 simp only[lp,c0,c1,c2,c3,c4,c5,c6,w1,g,e1,NV,↓NP,undef,bC,seval]
 refine aE fs ?_
 simp only[ho,w2,w3,e2,NV,↓NP,seval]
 refine aI [(0,0)] F ?_
 simp only[EX,p5,pl,lp,lx,ly,t1,NV,NJ,↓NP,bC,seval]
 refine aE fn ?_
 simp only[pl,lp,lx,ly,t2,NV,↓NP,seval]
 refine aE fn' ?_
 simp only[p1,p2,p3,p4,pl,pt,lq,lq',lz,t3,NV,↓NP,bC,seval]
theorem Ak (old X:List UInt8) (ho:old.length=16):∀ (t m n:Nat) (w:Bool) (c:Nat),16 * c≤X.length→(pG t old m n w X c).1.length=16∧(pG t old m n w X c).2.1.length=16
 | 0,_,_,_,_,_=>⟨rfl,rfl⟩
 | t+1,m,n,w,c,h=>by
  by_cases hc:c=0
  ·simp only[pG,hc,if_true]
   split
   ·exact⟨ho,ho⟩
   ·exact⟨rfl,rfl⟩
  ·have lp:=(oN (X:=X) (d:=c - 1) (by omega)).2
   have i1:=Ak old X ho t m (aV n) w (c - 1) (by omega)
   have i2:=Ak old X ho t (m - aV n) (n - aV n) false (c - 1) (by omega)
   simp only[pG,if_neg hc]
   split
   ·exact⟨ho,ho⟩
   split
   ·exact⟨lp,lp⟩
   split
   ·exact⟨i1.1,bK _ _⟩
   ·exact⟨bK _ _,bK _ _⟩
theorem ABn:∀ t,t≤32→ABm t:=by
 have z:∀ (t:Nat) (old:List UInt8) (m n:Nat) (w:Bool) (X:List UInt8),¬ (m=n∧w=true)→pG (t+1) old m n w X 0=(bY,bY,false):=fun t old m n w X h=>by rw[pG,if_neg h,if_pos rfl]
 have base:∀ (t:Nat) (old:List UInt8) (n:Nat) (w:Bool) (X:List UInt8) (c:Nat),old.length=16→16 * c≤X.length→c≤1000 →
   Fun Tryz.prog aO 113 [.agg (aB old),.int .i64 (n:Int),.int .i64 (n:Int),.bool w,.slc 0 0 16 c none] [(0,⟨.view,aB X⟩)] 1
    (.agg (kC (pG (t+1) old n n w X c).1 (pG (t+1) old n n w X c).2.1 (pG (t+1) old n n w X c).2.2)) [] 1:=by
  intro t old n w X c ho hX hc
  cases w with
  | true=>rw[pG,if_pos ⟨rfl,rfl⟩];exact ZA old n c X ho
  | false=>
   cases c with
   | zero=>rw[z _ _ _ _ _ _ (by simp)];exact Tl old n n false X ho (by simp)
   | succ d=>rw[pG,if_neg (by simp),if_neg (by omega),if_pos rfl];exact ZB old n d X ho hX hc
 intro t
 induction t with
 | zero=>
  intro _ old m n w X c ho h1 h2 h3 hX hc
  obtain rfl:m=n:=by omega
  exact base 0 old m w X c ho hX hc
 | succ t ih=>
  intro ht old m n w X c ho h1 h2 h3 hX hc
  by_cases hmn:m=n
  ·subst hmn;exact base _ old m w X c ho hX hc
  have hlt:m < n:=by omega
  have k3:=Ag (t:=t) (n:=n) (by omega) h3
  have k2:=C4 (n:=n) (by omega)
  have n32:n≤4294967296:=Nat.le_trans h3 (Nat.pow_le_pow_right (by decide) ht)
  cases c with
  | zero=>rw[z _ _ _ _ _ _ (fun h=>hmn h.1)];exact Tl old m n w X ho (fun h=>hmn h.1)
  | succ d=>
   rw[pG,if_neg (fun h=>hmn h.1),if_neg (by omega),if_neg hmn]
   by_cases hk:m≤aV n
   ·rw[if_pos hk]
    obtain⟨l1,l2⟩:=Ak old X ho (t+1) m (aV n) w d (by omega)
    exact ZC old _ _ m n d w _ X ho hX hc h1 hlt n32 hk l1 l2 (ih (by omega) old m (aV n) w X d ho h1 hk k3 (by omega) (by omega))
   ·rw[if_neg hk]
    obtain⟨l1,l2⟩:=Ak old X ho (t+1) (m - aV n) (n - aV n) false d (by omega)
    exact ZD old _ _ m n d w _ X ho hX hc h1 hlt n32 hk l1 l2 (ih (by omega) old (m - aV n) (n - aV n) false X d ho (by omega) (by omega) (by omega) (by omega) (by omega))
theorem h68 (old mP:List UInt8) (m n:Nat) (X:List UInt8) (c:Nat) (ho:old.length=16) (hr:mP.length=16) (h1:1≤m) (h2:m≤n) (hn:n≤4294967296) (hX:16 * c≤X.length) (hc:c≤1000) :
  Fun Tryz.prog aO 68 [.agg (aB old),.agg (aB mP),.int .i64 (m:Int),.int .i64 (n:Int),.slc 0 0 16 c none] [(0,⟨.view,aB X⟩)] 1 (.bool (Mo old mP m n X c)) [] 1:=by
 refine dK Tryz.f68 (by kernel_rfl) (fun η=>rfl) ?_
 conv in aJ _ _=>(reduce;simp only[aH,seval])
 have F:=ABn 32 (by decide) old m n true X c ho h1 h2 hn hX hc
 obtain⟨lx,ly⟩:=Ak old X ho 33 m n true c hX
 unfold Mo
 generalize (pG (32+1) old m n true X c).1=x at *
 generalize (pG (32+1) old m n true X c).2.1=y at *
 generalize (pG (32+1) old m n true X c).2.2=b at *
 have c1:¬ (m:Int) < 1:=by omega
 have c2:¬ (m:Int) > (n:Int):=by omega
 have p5:=b9 (a:=JL) (b:=kC x y b) (gH lx ly)
 have pl:=gH (ok:=b) lx ly
 obtain⟨t1,t2,t3⟩:=EB (b:=b) lx ly
 simp only[JL,List.replicate_succ,List.replicate_zero,List.cons_append,List.nil_append] at p5
 have q1:=lN lx ho
 have q2:=lN ly hr
 cases b with
 | false=>
  simp only[ho,c1,c2,NV,↓NP,seval]
  refine aI [(0,0)] F ?_
  simp only[EX,p5,pl,t3,NV,NJ,↓NP,undef,bC,seval]
  rfl
 | true=>
  cases hq:(x==old) with
  | false=>
   rw[hq] at q1
   simp only[ho,c1,c2,NV,↓NP,seval]
   refine aI [(0,0)] F ?_
   simp only[EX,ho,p5,pl,t1,t3,q1,NV,NJ,↓NP,undef,bC,seval]
   rfl
  | true=>
   rw[hq] at q1
   simp only[ho,c1,c2,NV,↓NP,seval]
   refine aI [(0,0)] F ?_
   simp only[EX,ho,hr,p5,pl,t1,t2,t3,q1,q2,NV,NJ,↓NP,bC,seval]
theorem Gp (old mP X:List UInt8) (m c:Nat):Mo old mP m m X c=((c==0) && (old==mP)):=by
 unfold Mo
 rw[pG,if_pos ⟨rfl,rfl⟩]
 simp
theorem ABo (old mP:List UInt8) (m:Nat) (X:List UInt8) (c:Nat) (ho:old.length=16) (hr:mP.length=16) (h1:1≤m) :
  Fun Tryz.prog aO 67 [.agg (aB old),.agg (aB mP),.int .i64 (m:Int),.int .i64 (m:Int),.slc 0 0 16 c none] [(0,⟨.view,aB X⟩)] 1 (.bool (Mo old mP m m X c)) [] 1:=by
 refine dK Tryz.f67 (by kernel_rfl) (fun η=>rfl) ?_
 conv in aJ _ _=>(reduce;simp only[aH,seval])
 have c1:¬ (m:Int) < 1:=by omega
 have c2:¬ (m:Int) > (m:Int):=by omega
 have c3:¬ (m:Int) < (m:Int):=by omega
 have lo:(aB old).length=16:=by rw[aA,ho]
 have q1:=lN ho ho
 have q2:=lN ho hr
 rw[beq_self_eq_true] at q1
 rw[Gp]
 simp only[c1,c2,NV,↓NP,seval]
 rw[aL]
 refine a8 (fun _ _ _ _ _ h=>h) (aN _ _) 1 ?_
 simp only[c3,NV,↓NP,seval]
 refine aI [] Ux ?_
 by_cases hc:c=0
 ·subst hc
  simp only[ho,lo,NV,NJ,↓NP,bC,seval]
  rw[aL]
  refine a8 (fun _ _ _ _ _ h=>h) (aN _ _) 1 ?_
  simp only[ho,hr,lo,q1,q2,NV,↓NP,seval]
 ·have c4:((c:Int) != 0)=true:=by simp;omega
  have c5:(c==0)=false:=by simp;omega
  simp only[ho,lo,c4,c5,Bool.false_and,NV,NJ,↓NP,bC,seval]
theorem ABp (old mP:List UInt8) (m:Nat) (ho:old.length=16) (hr:mP.length=16) (h1:1≤m) :
  Fun Tryz.prog aO 67 [.agg (aB old),.agg (aB mP),.int .i64 (m:Int),.int .i64 (m:Int),.val (.slice none 0 0)] [] 0 (.bool (old==mP)) [] 0:=by
 refine dK Tryz.f67 (by kernel_rfl) (fun η=>rfl) ?_
 conv in aJ _ _=>(reduce;simp only[aH,seval])
 have c1:¬ (m:Int) < 1:=by omega
 have c2:¬ (m:Int) > (m:Int):=by omega
 have c3:¬ (m:Int) < (m:Int):=by omega
 have lo:(aB old).length=16:=by rw[aA,ho]
 have q1:=lN ho ho
 have q2:=lN ho hr
 rw[beq_self_eq_true] at q1
 simp only[c1,c2,NV,↓NP,seval]
 rw[aL]
 refine a8 (fun _ _ _ _ _ h=>h) (aN _ _) 1 ?_
 simp only[c3,NV,↓NP,seval]
 refine aI [] Ux ?_
 simp only[ho,lo,NV,NJ,↓NP,bC,seval]
 rw[aL]
 refine a8 (fun _ _ _ _ _ h=>h) (aN _ _) 1 ?_
 simp only[ho,hr,lo,q1,q2,NV,↓NP,seval]
theorem ZE (old mP:List UInt8) (m n:Nat) (X:List UInt8) (c:Nat) (h1:1≤m) (h2:m≤n) (hn:n≤4294967296) :
  Mo old mP m n X c=if c=(iH 33 m n).length+Gg (kQ 33 m n true) then
   (qI (Qy (kQ 33 m n true) old X) (iH 33 m n).reverse (fun k=>d8 X (k+Gg (kQ 33 m n true))) (iH 33 m n).length).1==old &&
   (qI (Qy (kQ 33 m n true) old X) (iH 33 m n).reverse (fun k=>d8 X (k+Gg (kQ 33 m n true))) (iH 33 m n).length).2==mP else false:=by
 obtain⟨i1,i2⟩:=Yx old X 32 m n true c h1 h2 hn
 unfold Mo
 by_cases hc:c=(iH 33 m n).length+Gg (kQ 33 m n true)
 ·rw[if_pos hc,(i2 hc).1,(i2 hc).2,i1.2 hc,Bool.true_and]
 ·rw[if_neg hc]
  cases hb:(pG 33 old m n true X c).2.2 with
  | false=>rfl
  | true=>exact absurd (i1.1 hb) hc
theorem Gq {x0:List UInt8} {B:List Bool} {D:Nat→List UInt8} (h0:x0.length=16):∀ k,(qI x0 B D k).1.length=16∧(qI x0 B D k).2.length=16
 | 0=>⟨h0,h0⟩
 | k+1=>by
  have i:=Gq (B:=B) (D:=D) h0 k
  simp only[qI]
  split
  ·exact⟨bK _ _,bK _ _⟩
  ·exact⟨i.1,bK _ _⟩
theorem ABq (old mP:List UInt8) (m n:Nat) (X:List UInt8) (c:Nat) (ho:old.length=16) (hr:mP.length=16) (h1:1≤m) (h2:m < n) (hn:n≤4294967296) (hX:X.length=16 * c) (hc:c≤1000) :
  Fun Tryz.prog aO 67 [.agg (aB old),.agg (aB mP),.int .i64 (m:Int),.int .i64 (n:Int),.slc 0 0 16 c none] [(0,⟨.view,aB X⟩)] 1 (.bool (Mo old mP m n X c)) [] 1:=by
 refine dK Tryz.f67 (by kernel_rfl) (fun η=>rfl) ?_
 conv in aJ _ _=>(reduce;simp only[aH,seval])
 have c1:¬ (m:Int) < 1:=by omega
 have c2:¬ (m:Int) > (n:Int):=by omega
 have lo:(aB old).length=16:=by rw[aA,ho]
 have q2:=fun (x:List UInt8) (hx:x.length=16)=>lN hx ho
 have q3:=fun (x:List UInt8) (hx:x.length=16)=>lN hx hr
 rw[ZE old mP m n X c h1 (by omega) hn]
 have P1:1≤(iH 33 m n).length:=by
  rw[iH,if_pos h2];split <;> simp
 have P2:=Ah 33 m n
 generalize hP:iH 33 m n=P at P1 P2 ⊢
 generalize hW:kQ 33 m n true=W
 simp only[c1,c2,NV,↓NP,seval]
 rw[aL]
 refine bF (fun _ _ _ _ _ h=>h) (σ:=Nat × Nat × Nat × Bool × List Bool)
  (fun s=>[(12,.bool s.2.2.2.1),(11,AN 3 1 s.2.2.2.2.length),(6,.ptr 2 0),(5,.ptr 1 0),(4,.slc 0 0 16 c none),(3,.int .i64 (s.2.2.1:Int)),(2,.int .i64 (s.2.1:Int))])
  (fun s=>v7 3 4 (tM s.2.2.2.2) [(0,⟨.view,aB X⟩),(1,⟨.own 24,aB old⟩),(2,⟨.own 24,aB mP⟩)] s.2.2.2.2.length) (fun s=>s9 3 s.2.2.2.2.length)
  (fun s=>1≤s.2.1∧s.2.1≤s.2.2.1∧s.2.2.1≤2 ^ s.1∧s.1≤32∧s.2.2.2.2++iH (s.1+1) s.2.1 s.2.2.1=P∧kQ (s.1+1) s.2.1 s.2.2.1 s.2.2.2.1=W)
  (fun s=>s.1) (32,m,n,true,[]) ?_ ?_ ?_
 ·exact⟨[(0,0),(1,0),(2,0)],by simp[v7,s9,NF,seval],by simp[AN,NF,seval]⟩
 ·show 1≤m∧m≤n∧n≤2 ^ 32∧32≤32∧[]++iH 33 m n=P∧kQ 33 m n true=W
  exact⟨h1,by omega,hn,Nat.le_refl _,hP,hW⟩
 rintro⟨t,m',n',w,acc⟩ ⟨b1,b2,b3,b4,bP,bW⟩
 simp only at b1 b2 b3 b4 bP bW ⊢
 by_cases hlt:m' < n'
 ·have k0:=jW n'
  have k1:=jI (n:=n') (by omega)
  have k2:=C4 (n:=n') (by omega)
  have n32:n'≤4294967296:=Nat.le_trans b3 (Nat.pow_le_pow_right (by decide) b4)
  obtain⟨t,rfl⟩:∃ u,t=u+1:=by
   cases t with
   | zero=>have:n'≤1:=b3;omega
   | succ u=>exact⟨u,rfl⟩
  have k3:=Ag (t:=t) (n:=n') (by omega) b3
  have fs:=ABk (tS:=aO) n' (by omega) n32
  have e1:(m':Int) < (n':Int):=by omega
  rw[iH,if_pos hlt] at bP
  rw[kQ,if_pos hlt] at bW
  have la:=gN acc
  have ta:=I1 acc
  have lb:acc.length+1≤33:=by
   have:=congrArg List.length bP
   rw[List.length_append] at this
   split at this <;> (rw[List.length_cons] at this;omega)
  generalize aV n'=K at *
  have g0:t≤32:=by omega
  by_cases hk:m'≤K
  ·have e2:¬ (m':Int) > (K:Int):=by omega
   have e3:(m':Int)≤(K:Int):=by omega
   rw[if_pos hk] at bP bW
   have bP':(acc++[false])++iH (t+1) m' K=P:=by rw[List.append_assoc];exact bP
   rcases Nat.eq_zero_or_pos acc.length with h0|h0
   ·obtain rfl:=List.eq_nil_of_length_eq_zero h0
    simp only[List.length_nil,AN,v7,s9]
    simp only[e1,NV,↓NP,seval]
    refine aE fs ?_
    simp only[e2,e3,NV,↓NP,seval]
    exact⟨(t,m',K,w,[false]),⟨[(0,0),(1,0),(2,0),(4,0)],by simp[tM,NF,seval],by simp[NF,seval]⟩,⟨b1,hk,k3,g0,bP',bW⟩,Nat.lt_succ_self t⟩
   ·simp only[eL h0,eE h0,eO h0]
    have h1':0 < (acc++[false]).length:=by simp
    simp only[e1,NV,↓NP,seval]
    refine aE fs ?_
    simp only[e2,e3,la,ta,GU,NV,↓NP,seval]
    refine⟨by omega,(t,m',K,w,acc++[false]),?_,⟨b1,hk,k3,g0,bP',bW⟩,Nat.lt_succ_self t⟩
    simp only[eL h1',eE h1',eO h1']
    exact⟨[(0,0),(1,0),(2,0),(5,0)],by simp[cZ,NF,seval],by simp[NF,seval]⟩
  ·have e2:(m':Int) > (K:Int):=by omega
   have e3:¬ (m':Int)≤(K:Int):=by omega
   rw[if_neg hk] at bP bW
   have bP':(acc++[true])++iH (t+1) (m' - K) (n' - K)=P:=by rw[List.append_assoc];exact bP
   have w1:IntKind.i64.wrap ((m':Int) - (K:Int))=((m' - K:Nat):Int):=by rw[aD (by omega) (by omega)];omega
   have w2:IntKind.i64.wrap ((n':Int) - (K:Int))=((n' - K:Nat):Int):=by rw[aD (by omega) (by omega)];omega
   have g1:1≤m' - K:=by omega
   have g2:m' - K≤n' - K:=by omega
   have g3:n' - K≤2 ^ t:=by omega
   rcases Nat.eq_zero_or_pos acc.length with h0|h0
   ·obtain rfl:=List.eq_nil_of_length_eq_zero h0
    simp only[List.length_nil,AN,v7,s9]
    simp only[e1,NV,↓NP,seval]
    refine aE fs ?_
    simp only[e2,e3,w1,w2,NV,↓NP,seval]
    exact⟨(t,m' - K,n' - K,false,[true]),⟨[(0,0),(1,0),(2,0),(4,0)],by simp[tM,NF,seval],by simp[NF,seval]⟩,⟨g1,g2,g3,g0,bP',bW⟩,Nat.lt_succ_self t⟩
   ·simp only[eL h0,eE h0,eO h0]
    have h1':0 < (acc++[true]).length:=by simp
    simp only[e1,NV,↓NP,seval]
    refine aE fs ?_
    simp only[e2,e3,w1,w2,la,ta,GU,NV,↓NP,seval]
    refine⟨by omega,(t,m' - K,n' - K,false,acc++[true]),?_,⟨g1,g2,g3,g0,bP',bW⟩,Nat.lt_succ_self t⟩
    simp only[eL h1',eE h1',eO h1']
    exact⟨[(0,0),(1,0),(2,0),(5,0)],by simp[cZ,NF,seval],by simp[NF,seval]⟩
 ·have e1:¬ (m':Int) < (n':Int):=by omega
  rw[iH,if_neg hlt,List.append_nil] at bP
  rw[kQ,if_neg hlt] at bW
  subst bP bW
  have h0:0 < acc.length:=P1
  have fr:=ABl (tS:=aO) acc (by omega)
  have lr:acc.reverse.length=acc.length:=List.length_reverse
  have gl:=fun k (hk:k < acc.reverse.length)=>KB hk
  simp only[eL h0,eE h0,eO h0]
  generalize acc.length=L at *
  generalize acc.reverse=B at *
  simp only[e1,NV,↓NP,seval]
  refine aI [(3,0)] fr ?_
  simp only[cZ,ho,lo,NV,NJ,↓NP,Ei,cV,jC,touch,clear,eV,lZ,bC,seval]
  cases w with
  | true=>
   simp only[Qy,Gg,if_true,Nat.add_zero]
   by_cases hcL:c=L
   case neg=>
    have c6:((c:Int) != (L:Int))=true:=by simp;omega
    simp only[c6,hcL,NV,seval]
   subst hcL
   have c6:((c:Int) != (c:Int))=false:=by simp
   simp only[c6,NV,seval]
   rw[aL]
   refine bF (fun _ _ _ _ _ h=>h) (σ:=Nat) (fun k=>[(67,.int .i64 (k:Int)),(66,.int .i64 (c:Int)),(65,.slc 0 0 16 c none),(15,.ptr 5 0),(14,.ptr 4 0),(11,.slc 3 0 1 c none),(6,.ptr 2 0),(5,.ptr 1 0)])
    (fun k=>[(5,⟨.own 24,aB (qI old B (fun k=>d8 X k) k).2⟩),(4,⟨.own 24,aB (qI old B (fun k=>d8 X k) k).1⟩),(3,⟨.own 4,tM B⟩),(0,⟨.view,aB X⟩),(1,⟨.own 24,aB old⟩),(2,⟨.own 24,aB mP⟩)]) (fun _=>6) (fun k=>k≤c) (fun k=>c - k) 0 ?_ (Nat.zero_le _) ?_
   ·exact⟨[(0,0),(1,0),(2,0),(3,0),(4,0),(5,0)],by simp[qI,aC,cZ,NF,seval],by simp[NF,seval]⟩
   intro k hk
   obtain⟨lx,ly⟩:=Gq (B:=B) (D:=(fun k=>d8 X k)) ho k
   by_cases hkL:k < c
   ·obtain⟨gk,lP⟩:=oN (X:=X) (d:=k+0) (by omega)
    have gk':List.take 16 (List.drop (k * 16) (aB X))=aB (d8 X (k+0)):=by rw[show (k+0) * 16=k * 16 by omega] at gk;exact gk
    have k1:(k:Int) < (c:Int):=by omega
    have k2:(0:Int)≤(k:Int):=by omega
    have k3:k * 16 < X.length:=by omega
    have k4:k * 16+16≤X.length:=by omega
    have k5:k < c:=hkL
    have w1:IntKind.i64.wrap ((k:Int)+1)=((k+1:Nat):Int):=by rw[aD (by omega) (by omega)];omega
    have gB:=gl k (by rw[lr];exact hkL)
    have lB:=gN B
    have st:qI old B (fun k=>d8 X k) (k+1)=if B.getD k false then (dE 2 [d8 X (k+0),(qI old B (fun k=>d8 X k) k).1],dE 2 [d8 X (k+0),(qI old B (fun k=>d8 X k) k).2]) else ((qI old B (fun k=>d8 X k) k).1,dE 2 [(qI old B (fun k=>d8 X k) k).2,d8 X (k+0)]):=by
     rw[List.getD_eq_getElem?_getD];rfl
    simp only[Nat.add_zero] at st gk' lP
    generalize d8 X (k)=Pk at *
    generalize (qI old B (fun k=>d8 X k) k).1=x at *
    generalize (qI old B (fun k=>d8 X k) k).2=y at *
    cases hb:B.getD k false with
    | true=>
     rw[hb] at gB st
     simp only[if_true] at st
     have n1:=f98 (tS:=aO) Pk x lP lx
     have n2:=f98 (tS:=aO) Pk y lP ly
     have e1:=mC lP lx
     have e2:=mC lP ly
     have s1:=(Qt (dV 2 [Pk,x]) (by omega) none).more GL
     have s2:=(Qt (dV 2 [Pk,y]) (by omega) none).more GL
     have l1:=bK 2 [Pk,x]
     have l2:=bK 2 [Pk,y]
     change Fun _ _ _ _ _ _ (.agg (aB (dE 2 [Pk,x]))) _ _ at s1
     change Fun _ _ _ _ _ _ (.agg (aB (dE 2 [Pk,y]))) _ _ at s2
     generalize dE 2 [Pk,x]=Q1 at *
     generalize dE 2 [Pk,y]=Q2 at *
     generalize dV 2 [Pk,x]=M1 at *
     generalize dV 2 [Pk,y]=M2 at *
     have p1:=b9 (a:=aB x) (b:=aB Q1) (by rw[aA,aA,l1,lx])
     have p2:=b9 (a:=aB y) (b:=aB Q2) (by rw[aA,aA,l2,ly])
     simp only[k1,k2,k3,k4,k5,gk',gB,lB,lr,lP,lx,NV,↓NP,bC,seval]
     refine aI [] n1 ?_
     simp only[NV,NJ,↓NP,seval]
     refine aI [(7,0)] s1 ?_
     simp only[lP,ly,NV,NJ,↓NP,seval]
     refine aI [] n2 ?_
     simp only[NV,NJ,↓NP,seval]
     refine aI [(8,0)] s2 ?_
     simp only[lx,ly,l1,l2,p1,p2,w1,NV,NJ,↓NP,bC,seval]
     exact⟨k+1,⟨[(0,0),(1,0),(2,0),(3,0),(4,0),(5,0)],by simp[st,aC,cZ,NF,seval],by simp[NF,seval]⟩,by omega,by omega⟩
    | false=>
     rw[hb] at gB st
     simp only[Bool.false_eq_true,if_false] at st
     have n2:=f98 (tS:=aO) y Pk ly lP
     have e2:=mC ly lP
     have s2:=(Qt (dV 2 [y,Pk]) (by omega) none).more GL
     have l2:=bK 2 [y,Pk]
     change Fun _ _ _ _ _ _ (.agg (aB (dE 2 [y,Pk]))) _ _ at s2
     generalize dE 2 [y,Pk]=Q2 at *
     generalize dV 2 [y,Pk]=M2 at *
     have p2:=b9 (a:=aB y) (b:=aB Q2) (by rw[aA,aA,l2,ly])
     simp only[k1,k2,k3,k4,k5,gk',gB,lB,lr,lP,ly,NV,↓NP,bC,seval]
     refine aI [] n2 ?_
     simp only[NV,NJ,↓NP,seval]
     refine aI [(7,0)] s2 ?_
     simp only[ly,l2,p2,w1,NV,NJ,↓NP,bC,seval]
     exact⟨k+1,⟨[(0,0),(1,0),(2,0),(3,0),(4,0),(5,0)],by simp[st,aC,cZ,NF,seval],by simp[NF,seval]⟩,by omega,by omega⟩
   ·obtain rfl:k=c:=by omega
    have k1:¬ (k:Int) < (k:Int):=by omega
    have q2:=q2 _ lx
    have q3:=q3 _ ly
    generalize (qI old B (fun k=>d8 X k) k).1=x at *
    generalize (qI old B (fun k=>d8 X k) k).2=y at *
    cases hx:(x==old) with
    | true=>
     rw[hx] at q2
     simp only[k1,lx,ly,lo,ho,hr,q2,q3,Bool.true_and,NV,↓NP,seval]
    | false=>
     rw[hx] at q2
     simp only[k1,lx,lo,ho,q2,Bool.false_and,NV,↓NP,undef,seval]
  | false=>
   simp only[Qy,Gg,Bool.false_eq_true,if_false]
   by_cases hc0:c=0
   ·subst hc0
    rw[if_neg (by omega)]
    simp only[Bool.not_false,NV,seval]
   obtain⟨d,rfl⟩:∃ d,c=d+1:=⟨c - 1,by omega⟩
   have c7:(((d+1:Nat):Int)==0)=false:=by simp;omega
   obtain⟨g0,lp0⟩:=oN (X:=X) (d:=0) (by omega)
   have t0:List.take 16 (aB X)=aB (d8 X 0):=g0
   have u1:(0:Int) < ((d+1:Nat):Int):=by omega
   have u2:0 < X.length:=by omega
   have u3:16≤X.length:=by omega
   have u4:(d+1) * 16≤X.length:=by omega
   have u5:(1:Int)≤((d+1:Nat):Int):=by omega
   have sp:aF (aB old) 0 (aB (d8 X 0))=aB (d8 X 0):=b9 (by rw[aA,aA,lp0,ho])
   by_cases hcL:d=L
   case neg=>
    have c6:((d:Int) != (L:Int))=true:=by simp;omega
    have c8:¬ d+1=L+1:=by omega
    simp only[c7,t0,u1,u2,u3,u4,u5,sp,lp0,c6,c8,Nat.add_sub_cancel,Bool.not_false,NV,seval]
   subst hcL
   have c6:((d:Int) != (d:Int))=false:=by simp
   simp only[c7,t0,u1,u2,u3,u4,u5,sp,lp0,c6,Nat.add_sub_cancel,Bool.not_false,NV,seval]
   rw[aL]
   refine bF (fun _ _ _ _ _ h=>h) (σ:=Nat) (fun k=>[(67,.int .i64 (k:Int)),(66,.int .i64 (d:Int)),(65,.slc 0 16 16 d none),(15,.ptr 5 0),(14,.ptr 4 0),(11,.slc 3 0 1 d none),(6,.ptr 2 0),(5,.ptr 1 0)])
    (fun k=>[(5,⟨.own 24,aB (qI (d8 X 0) B (fun k=>d8 X (k+1)) k).2⟩),(4,⟨.own 24,aB (qI (d8 X 0) B (fun k=>d8 X (k+1)) k).1⟩),(3,⟨.own 4,tM B⟩),(0,⟨.view,aB X⟩),(1,⟨.own 24,aB old⟩),(2,⟨.own 24,aB mP⟩)]) (fun _=>6) (fun k=>k≤d) (fun k=>d - k) 0 ?_ (Nat.zero_le _) ?_
   ·exact⟨[(0,0),(1,0),(2,0),(3,0),(4,0),(5,0)],by simp[qI,aC,cZ,NF,seval],by simp[NF,seval]⟩
   intro k hk
   obtain⟨lx,ly⟩:=Gq (B:=B) (D:=(fun k=>d8 X (k+1))) lp0 k
   by_cases hkL:k < d
   ·obtain⟨gk,lP⟩:=oN (X:=X) (d:=k+1) (by omega)
    have gk':List.take 16 (List.drop (16+k * 16) (aB X))=aB (d8 X (k+1)):=by rw[show (k+1) * 16=16+k * 16 by omega] at gk;exact gk
    have k1:(k:Int) < (d:Int):=by omega
    have k2:(0:Int)≤(k:Int):=by omega
    have k3:16+k * 16 < X.length:=by omega
    have k4:16+k * 16+16≤X.length:=by omega
    have k5:k < d:=hkL
    have w1:IntKind.i64.wrap ((k:Int)+1)=((k+1:Nat):Int):=by rw[aD (by omega) (by omega)];omega
    have gB:=gl k (by rw[lr];exact hkL)
    have lB:=gN B
    have st:qI (d8 X 0) B (fun k=>d8 X (k+1)) (k+1)=if B.getD k false then (dE 2 [d8 X (k+1),(qI (d8 X 0) B (fun k=>d8 X (k+1)) k).1],dE 2 [d8 X (k+1),(qI (d8 X 0) B (fun k=>d8 X (k+1)) k).2]) else ((qI (d8 X 0) B (fun k=>d8 X (k+1)) k).1,dE 2 [(qI (d8 X 0) B (fun k=>d8 X (k+1)) k).2,d8 X (k+1)]):=by
     rw[List.getD_eq_getElem?_getD];rfl
    skip
    generalize d8 X (k+1)=Pk at *
    generalize (qI (d8 X 0) B (fun k=>d8 X (k+1)) k).1=x at *
    generalize (qI (d8 X 0) B (fun k=>d8 X (k+1)) k).2=y at *
    cases hb:B.getD k false with
    | true=>
     rw[hb] at gB st
     simp only[if_true] at st
     have n1:=f98 (tS:=aO) Pk x lP lx
     have n2:=f98 (tS:=aO) Pk y lP ly
     have e1:=mC lP lx
     have e2:=mC lP ly
     have s1:=(Qt (dV 2 [Pk,x]) (by omega) none).more GL
     have s2:=(Qt (dV 2 [Pk,y]) (by omega) none).more GL
     have l1:=bK 2 [Pk,x]
     have l2:=bK 2 [Pk,y]
     change Fun _ _ _ _ _ _ (.agg (aB (dE 2 [Pk,x]))) _ _ at s1
     change Fun _ _ _ _ _ _ (.agg (aB (dE 2 [Pk,y]))) _ _ at s2
     generalize dE 2 [Pk,x]=Q1 at *
     generalize dE 2 [Pk,y]=Q2 at *
     generalize dV 2 [Pk,x]=M1 at *
     generalize dV 2 [Pk,y]=M2 at *
     have p1:=b9 (a:=aB x) (b:=aB Q1) (by rw[aA,aA,l1,lx])
     have p2:=b9 (a:=aB y) (b:=aB Q2) (by rw[aA,aA,l2,ly])
     simp only[k1,k2,k3,k4,k5,gk',gB,lB,lr,lP,lx,NV,↓NP,bC,seval]
     refine aI [] n1 ?_
     simp only[NV,NJ,↓NP,seval]
     refine aI [(7,0)] s1 ?_
     simp only[lP,ly,NV,NJ,↓NP,seval]
     refine aI [] n2 ?_
     simp only[NV,NJ,↓NP,seval]
     refine aI [(8,0)] s2 ?_
     simp only[lx,ly,l1,l2,p1,p2,w1,NV,NJ,↓NP,bC,seval]
     exact⟨k+1,⟨[(0,0),(1,0),(2,0),(3,0),(4,0),(5,0)],by simp[st,aC,cZ,NF,seval],by simp[NF,seval]⟩,by omega,by omega⟩
    | false=>
     rw[hb] at gB st
     simp only[Bool.false_eq_true,if_false] at st
     have n2:=f98 (tS:=aO) y Pk ly lP
     have e2:=mC ly lP
     have s2:=(Qt (dV 2 [y,Pk]) (by omega) none).more GL
     have l2:=bK 2 [y,Pk]
     change Fun _ _ _ _ _ _ (.agg (aB (dE 2 [y,Pk]))) _ _ at s2
     generalize dE 2 [y,Pk]=Q2 at *
     generalize dV 2 [y,Pk]=M2 at *
     have p2:=b9 (a:=aB y) (b:=aB Q2) (by rw[aA,aA,l2,ly])
     simp only[k1,k2,k3,k4,k5,gk',gB,lB,lr,lP,ly,NV,↓NP,bC,seval]
     refine aI [] n2 ?_
     simp only[NV,NJ,↓NP,seval]
     refine aI [(7,0)] s2 ?_
     simp only[ly,l2,p2,w1,NV,NJ,↓NP,bC,seval]
     exact⟨k+1,⟨[(0,0),(1,0),(2,0),(3,0),(4,0),(5,0)],by simp[st,aC,cZ,NF,seval],by simp[NF,seval]⟩,by omega,by omega⟩
   ·obtain rfl:k=d:=by omega
    have k1:¬ (k:Int) < (k:Int):=by omega
    have q2:=q2 _ lx
    have q3:=q3 _ ly
    generalize (qI (d8 X 0) B (fun k=>d8 X (k+1)) k).1=x at *
    generalize (qI (d8 X 0) B (fun k=>d8 X (k+1)) k).2=y at *
    cases hx:(x==old) with
    | true=>
     rw[hx] at q2
     simp only[k1,lx,ly,lo,ho,hr,q2,q3,Bool.true_and,NV,↓NP,seval]
    | false=>
     rw[hx] at q2
     simp only[k1,lx,lo,ho,q2,Bool.false_and,NV,↓NP,undef,seval]
end Go.Proofs.YtmhkkalbijbplaaGreatDoor
