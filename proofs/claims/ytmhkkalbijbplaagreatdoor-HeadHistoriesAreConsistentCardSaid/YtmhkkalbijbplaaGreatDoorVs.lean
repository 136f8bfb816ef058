/- The proof, part Vs: SnA, SnB. -/
import Derived.Test.YtmhkkalbijbplaaGreatDoorVk
import Derived.Test.YtmhkkalbijbplaaGreatDoorVr
set_option linter.unusedSimpArgs false
set_option linter.unusedVariables false
set_option maxRecDepth 100000
set_option maxHeartbeats 16000000
namespace Go.Proofs.YtmhkkalbijbplaaGreatDoor
open Go Go.Sx
theorem j7 {a b:List UInt8} (h:gI a=gI b):a=b:=by
 have:∀ (a b:List UInt8),gI a=gI b→a=b:=by
  intro a
  induction a with
  | nil=>intro b h;cases b <;> simp_all [gI]
  | cons x a ih=>
   intro b h
   cases b with
   | nil=>simp[gI] at h
   | cons y b=>
    simp only[gI,List.map_cons,List.cons.injEq] at h
    rw[UInt8.toNat_inj.1 h.1,ih b h.2]
 exact this a b h
def eN (n:Nat):List Nat:=if n=0 then [128] else if n=560 then [130,2,48] else [129,n]
theorem FW:∀ n,n < 65→gI (aP ((n:Nat):Int))=eN n:=by decide +kernel
theorem Va:gI (aP ((560:Nat):Int))=eN 560:=by decide +kernel
def Sq (n:Nat):Bool:=decide (n < 65) || decide (n=560)
theorem Y4 {n:Nat} (h:Sq n=true):gI (aP ((n:Nat):Int))=eN n:=by
 unfold Sq at h
 simp only[Bool.or_eq_true,decide_eq_true_eq] at h
 rcases h with h|rfl
 ·exact FW n h
 ·exact Va
def sN (v:List Nat):List Nat:=eN v.length++v
def Vw (tag:Nat) (ps:List (List Nat)):List Nat:=(Q4 (tag :: (ps.map sN).flatten)).take 16
theorem JG (a:List UInt8) (n:Nat):gI (a.take n)=(gI a).take n:=by simp[gI,List.map_take]
theorem Dy {v:List UInt8} (h:Sq v.length=true):gI (bU v)=sN (gI v):=by
 unfold bU sN
 rw[oQ,Y4 h,Gd]
theorem FX:∀ (ps:List (List UInt8)),(∀ p∈ps,Sq p.length=true)→gI ((ps.map bU).flatten)=((ps.map gI).map sN).flatten
 | [],_=>rfl
 | p :: ps,h=>by
  simp only[List.map_cons,List.flatten_cons]
  rw[oQ,Dy (h p (by simp)),FX ps (fun q hq=>h q (by simp[hq]))]
theorem FY:∀ (ps:List (List UInt8)),(∀ p∈ps,Sq p.length=true)→((ps.map bU).flatten).length≤600 * ps.length
 | [],_=>Nat.le_refl _
 | p :: ps,h=>by
  have h1:=h p (by simp)
  have h2:=FY ps (fun q hq=>h q (by simp[hq]))
  have e:=aS (p.length:Int)
  unfold Sq at h1
  simp only[Bool.or_eq_true,decide_eq_true_eq] at h1
  simp only[List.map_cons,List.flatten_cons,List.length_append,bU,List.length_cons]
  omega
theorem Mm {t:Nat} (h:t < 256):(kF (t:Int)).toNat=t:=by rw[BX];omega
theorem nS {tag:Nat} {ps:List (List UInt8)} (ht:tag < 256) (hp:∀ p∈ps,Sq p.length=true) (hl:ps.length≤1000):gI (dE (tag:Int) ps)=Vw tag (ps.map gI):=by
 unfold dE Vw dV
 have hb:=FY ps hp
 rw[JG,Ge (by simp only[List.length_cons];omega)]
 rw[show gI (kF (tag:Int) :: (ps.map bU).flatten)=tag :: gI ((ps.map bU).flatten) by simp[gI,Mm ht],FX ps hp]
def EW (k:Nat):Nat→Nat→List Nat→List Nat
 | 0,_,v=>v
 | c+1,h,v=>EW k c (h+1) (Vw 4 [eN k,eN h,v])
theorem Af {n:Nat} (h:n < 65):Sq (aP ((n:Nat):Int)).length=true:=by
 have:=aS (n:Int)
 unfold Sq
 simp only[Bool.or_eq_true,decide_eq_true_eq]
 omega
theorem C2 {k:Nat} (hk:k < 65):∀ (c h:Nat) (v:List UInt8),h+c < 65→v.length=16→gI (iV k c h v)=EW k c h (gI v)
 | 0,_,_,_,_=>rfl
 | c+1,h,v,hc,hv=>by
  show gI (iV k c (h+1) (dE 4 [aP k,aP h,v]))=EW k c (h+1) (Vw 4 [eN k,eN h,gI v])
  rw[C2 hk c (h+1) _ (by omega) (bK _ _)]
  congr 1
  have:=nS (tag:=4) (ps:=[aP k,aP h,v]) (by decide) (fun p hp=>by
   simp only[List.mem_cons,List.not_mem_nil,or_false] at hp
   rcases hp with rfl|rfl|rfl
   ·exact Af hk
   ·exact Af (by omega)
   ·rw[hv];rfl) (by simp)
  rw[show dE 4 [aP k,aP h,v]=dE ((4:Nat):Int) [aP k,aP h,v] from rfl,this]
  simp only[List.map_cons,List.map_nil,FW k hk,FW h (by omega)]
def Q6 (A B t:List Nat):List Nat:=Q4 (A++Q4 (B++t))
theorem Gf {key text A B:List UInt8} (hA:fR key 92 64=A) (hB:fR key 54 64=B) (ht:text.length≤1000):gI (BM key text)=Q6 (gI A) (gI B) (gI text):=by
 unfold BM Q6
 have l1:=kK key 92 64
 have l2:=kK key 54 64
 rw[hA] at l1
 rw[hB] at l2
 rw[hA,hB,Ge (by rw[List.length_append,jS,l1];decide),oQ,Ge (by rw[List.length_append,l2];omega),oQ]
def Vx (A B:List Nat) (k:Nat):List Nat:=(Q6 A B (sN [99,104,97,105,110]++sN (eN k))).take 16
theorem Q7 {key A B:List UInt8} (hA:fR key 92 64=A) (hB:fR key 54 64=B) {k:Nat} (hk:k < 65):gI (GN key (k:Int))=Vx (gI A) (gI B) k:=by
 have e:=aS (k:Int)
 unfold GN Vx yV BP
 rw[JG,Gf hA hB (by simp only[List.length_append,bU];have:=aS ((aP (k:Int)).length:Int);have:=aS ((([99,104,97,105,110]:List UInt8).length:Nat):Int);simp only[List.length_cons,List.length_nil] at *;omega),oQ,Dy (by rfl),Dy (Af hk),FW k hk]
 rfl
theorem Q8 {key A B:List UInt8} (hA:fR key 92 64=A) (hB:fR key 54 64=B) {k:Nat} (hk:k < 65):gI (gM key (k:Int))=Q6 (gI A) (gI B) (sN [108,101,97,102]++sN (eN k)):=by
 have e:=aS (k:Int)
 unfold gM yV BP
 rw[Gf hA hB (by simp only[List.length_append,bU];have:=aS ((aP (k:Int)).length:Int);have:=aS ((([108,101,97,102]:List UInt8).length:Nat):Int);simp only[List.length_cons,List.length_nil] at *;omega),oQ,Dy (by rfl),Dy (Af hk),FW k hk]
 rfl
theorem Vb {key A B:List UInt8} (hA:fR key 92 64=A) (hB:fR key 54 64=B) {k:Nat} (hk:k < 65):gI (uQ key (k:Int))=Q6 (gI A) (gI B) (sN [108,111,119,101,114]++sN (eN k)):=by
 have e:=aS (k:Int)
 unfold uQ yV BP
 rw[Gf hA hB (by simp only[List.length_append,bU];have:=aS ((aP (k:Int)).length:Int);have:=aS ((([108,111,119,101,114]:List UInt8).length:Nat):Int);simp only[List.length_cons,List.length_nil] at *;omega),oQ,Dy (by rfl),Dy (Af hk),FW k hk]
 rfl
theorem JH {α:Type} (f:α→List UInt8) (l:List α):gI ((l.map f).flatten)=(l.map fun k=>gI (f k)).flatten:=by
 induction l with
 | nil=>rfl
 | cons a l ih=>simp only[List.map_cons,List.flatten_cons];rw[oQ,ih]
theorem Dz {β:Type} (f:Nat→β) (d:β) {n k:Nat} (h:k < n):((List.range n).map f).getD k d=f k:=by simp[List.getD,h]
theorem Bn {β:Type} {f g:Nat→β} (h:∀ k,k < 35→f k=g k):(List.range 35).map f=(List.range 35).map g:=List.map_congr_left fun k hk=>h k (by simpa using hk)
theorem Li {seed A B:List UInt8} {S C:List (List Nat)} {P:List Nat} (hA:fR seed 92 64=A) (hB:fR seed 54 64=B) (hS:(List.range 35).map (Vx (gI A) (gI B))=S)
  (hC:(List.range 35).map (fun k=>EW k 15 0 (S.getD k []))=C) (hP:Vw 5 [C.flatten]=P):gI (yW seed)=P:=by
 have lc:(jZ (A3 seed) 35).length=560:=iQ (fun k _=>xG seed k)
 unfold yW
 rw[show dE 5 [jZ (A3 seed) 35]=dE ((5:Nat):Int) [jZ (A3 seed) 35] from rfl,nS (by decide) (fun p hp=>by simp only[List.mem_singleton] at hp;subst hp;rw[lc];rfl) (by simp),← hP]
 simp only[List.map_cons,List.map_nil]
 congr 2
 unfold jZ
 rw[JH,← hC]
 refine congrArg List.flatten (Bn fun k hk=>?_)
 unfold A3
 rw[C2 (by omega) 15 0 _ (by decide) (sQ _ _),Q7 hA hB (by omega),← hS,Dz _ _ hk]
theorem Sr {seed A B D D':List UInt8} {S Q E:List (List Nat)} {dg dg' P:List Nat} (hA:fR seed 92 64=A) (hB:fR seed 54 64=B) (hS:(List.range 35).map (Vx (gI A) (gI B))=S)
  (hd:∀ k,k < 35→tG D k=dg.getD k 0) (hd':∀ k,k < 35→tG D' k=dg'.getD k 0)
  (hQ:(List.range 35).map (fun k=>EW k (dg.getD k 0) 0 (S.getD k []))=Q) (hE:(List.range 35).map (fun k=>EW k (15 - dg'.getD k 0) (dg'.getD k 0) (Q.getD k []))=E)
  (hP:Vw 5 [E.flatten]=P):gI (tJ D' (pA seed D))=P:=by
 have lr:∀ k,k < 35→(pS D' (pA seed D) k).length=16:=fun k hk=>xE _ _ _ _ (yJ (uO _ _) hk)
 have lc:(jD D' (pA seed D) 35).length=560:=iQ (f:=pS D' (pA seed D)) (n:=35) lr
 unfold tJ
 rw[show dE 5 [jD D' (pA seed D) 35]=dE ((5:Nat):Int) [jD D' (pA seed D) 35] from rfl,nS (by decide) (fun p hp=>by simp only[List.mem_singleton] at hp;subst hp;rw[lc];rfl) (by simp),← hP]
 simp only[List.map_cons,List.map_nil]
 congr 2
 unfold jD
 rw[JH,← hE]
 refine congrArg List.flatten (Bn fun k hk=>?_)
 have t1:=(o9 D hk).1
 have t2:=(o9 D' hk).1
 have hp:o8 (pA seed D) k=GP seed D k:=by unfold o8 pA;exact BQ hk (fun j _=>qX seed D j)
 unfold pS
 rw[hp,C2 (by omega) _ _ _ (by omega) (qX _ _ _),hd' k hk]
 congr 1
 unfold GP
 rw[C2 (by omega) _ _ _ (by omega) (sQ _ _),Q7 hA hB (by omega),← hQ,Dz _ _ hk,← hS,Dz _ _ hk,hd k hk]
def sK:List UInt8:=List.replicate 32 3
def pAK:List UInt8:=[95,95,95,95,95,95,95,95,95,95,95,95,95,95,95,95,95,95,95,95,95,95,95,95,95,95,95,95,95,95,95,95,92,92,92,92,92,92,92,92,92,92,92,92,92,92,92,92,92,92,92,92,92,92,92,92,92,92,92,92,92,92,92,92]
def pBK:List UInt8:=[53,53,53,53,53,53,53,53,53,53,53,53,53,53,53,53,53,53,53,53,53,53,53,53,53,53,53,53,53,53,53,53,54,54,54,54,54,54,54,54,54,54,54,54,54,54,54,54,54,54,54,54,54,54,54,54,54,54,54,54,54,54,54,54]
theorem Vc:fR sK 92 64=pAK:=by decide +kernel
theorem Vd:fR sK 54 64=pBK:=by decide +kernel
def sT:List UInt8:=[67,233,141,0,98,155,100,88,32,223,108,34,226,92,76,119,217,215,23,35,9,189,98,29,190,103,227,203,185,172,239,161]
theorem Y5:uQ sK 1=sT:=j7 ((Vb (k:=1) Vc Vd (by decide)).trans (by decide +kernel))
def pAT:List UInt8:=[31,181,209,92,62,199,56,4,124,131,48,126,190,0,16,43,133,139,75,127,85,225,62,65,226,59,191,151,229,240,179,253,92,92,92,92,92,92,92,92,92,92,92,92,92,92,92,92,92,92,92,92,92,92,92,92,92,92,92,92,92,92,92,92]
def pBT:List UInt8:=[117,223,187,54,84,173,82,110,22,233,90,20,212,106,122,65,239,225,33,21,63,139,84,43,136,81,213,253,143,154,217,151,54,54,54,54,54,54,54,54,54,54,54,54,54,54,54,54,54,54,54,54,54,54,54,54,54,54,54,54,54,54,54,54]
theorem Q9:fR sT 92 64=pAT:=by decide +kernel
theorem Qa:fR sT 54 64=pBT:=by decide +kernel
def s0:List UInt8:=[56,47,107,211,236,21,86,67,126,246,9,110,160,214,91,49,179,31,127,30,249,130,47,126,113,249,237,221,117,221,153,178]
theorem Y6:gM sT 0=s0:=j7 ((Q8 (k:=0) Q9 Qa (by decide)).trans (by decide +kernel))
def pA0:List UInt8:=[100,115,55,143,176,73,10,31,34,170,85,50,252,138,7,109,239,67,35,66,165,222,115,34,45,165,177,129,41,129,197,238,92,92,92,92,92,92,92,92,92,92,92,92,92,92,92,92,92,92,92,92,92,92,92,92,92,92,92,92,92,92,92,92]
def pB0:List UInt8:=[14,25,93,229,218,35,96,117,72,192,63,88,150,224,109,7,133,41,73,40,207,180,25,72,71,207,219,235,67,235,175,132,54,54,54,54,54,54,54,54,54,54,54,54,54,54,54,54,54,54,54,54,54,54,54,54,54,54,54,54,54,54,54,54]
theorem Ve:fR s0 92 64=pA0:=by decide +kernel
theorem Vf:fR s0 54 64=pB0:=by decide +kernel
def s1:List UInt8:=[22,187,243,27,35,69,144,69,102,248,7,81,179,208,68,237,241,103,243,23,144,130,80,252,159,82,136,226,67,207,222,168]
theorem Te:gM sT 1=s1:=j7 ((Q8 (k:=1) Q9 Qa (by decide)).trans (by decide +kernel))
def pA1:List UInt8:=[74,231,175,71,127,25,204,25,58,164,91,13,239,140,24,177,173,59,175,75,204,222,12,160,195,14,212,190,31,147,130,244,92,92,92,92,92,92,92,92,92,92,92,92,92,92,92,92,92,92,92,92,92,92,92,92,92,92,92,92,92,92,92,92]
def pB1:List UInt8:=[32,141,197,45,21,115,166,115,80,206,49,103,133,230,114,219,199,81,197,33,166,180,102,202,169,100,190,212,117,249,232,158,54,54,54,54,54,54,54,54,54,54,54,54,54,54,54,54,54,54,54,54,54,54,54,54,54,54,54,54,54,54,54,54]
theorem Qb:fR s1 92 64=pA1:=by decide +kernel
theorem Qc:fR s1 54 64=pB1:=by decide +kernel
def S0:List (List Nat):=[[168,159,73,183,202,246,179,184,112,222,140,117,135,51,227,200],[229,60,112,122,185,3,77,108,202,210,25,255,4,29,247,78],[30,215,189,215,27,58,138,220,6,200,112,212,200,242,239,230],[227,49,191,17,156,154,118,100,81,30,207,244,49,37,1,120],[145,172,105,71,182,147,47,219,52,65,248,212,253,249,157,184],[133,113,145,81,67,139,91,211,59,36,231,221,237,177,1,160],[36,171,195,202,240,15,28,61,170,141,159,207,116,45,208,178],[118,192,57,104,74,236,52,148,13,255,84,253,15,231,237,166],[101,72,179,159,35,179,114,45,34,32,226,11,149,156,174,55],[185,245,75,160,141,61,251,124,22,111,239,74,244,46,160,127],[191,229,239,93,130,31,2,8,44,22,21,158,221,42,72,204],[4,243,16,215,128,16,115,26,152,167,180,44,115,175,12,150],[216,153,99,3,194,186,254,213,71,65,93,34,118,248,125,61],[81,231,14,209,195,10,141,174,245,46,62,26,56,245,109,15],[30,39,189,98,252,129,219,255,136,244,173,13,232,50,62,248],[74,241,186,115,25,147,36,189,129,247,127,156,16,239,66,182],[157,209,85,222,2,226,31,42,28,26,186,181,16,171,24,124],[134,232,231,242,220,118,239,5,86,1,250,47,174,211,124,123],[153,118,167,231,196,33,28,24,229,94,108,20,24,216,76,76],[215,51,145,141,151,183,134,177,149,86,109,46,252,93,144,178],[33,174,234,243,181,5,29,83,250,235,208,132,236,137,92,144],[169,101,250,53,75,111,165,244,144,84,1,97,145,72,188,254],[219,174,79,56,154,70,6,224,143,74,20,2,160,231,181,223],[86,182,172,254,156,73,243,205,17,4,200,107,179,36,242,40],[46,245,248,77,151,153,4,151,108,170,240,35,232,173,4,224],[173,144,14,195,224,204,58,14,241,191,138,204,104,242,103,106],[241,163,192,2,13,198,3,124,207,210,177,13,17,162,49,228],[96,23,165,94,77,159,56,112,94,149,45,33,183,125,73,231],[31,42,116,211,193,120,130,145,235,182,86,4,28,23,124,149],[90,160,52,202,160,48,129,224,61,127,150,38,194,69,62,116],[185,250,163,241,39,236,227,231,191,82,31,211,7,193,225,187],[251,161,134,18,243,97,246,158,40,19,224,0,151,174,93,235],[212,160,78,215,48,122,252,221,112,207,0,84,142,230,103,254],[208,62,176,252,228,81,41,24,53,122,27,187,51,105,249,30],[170,237,252,66,247,249,119,209,218,205,25,170,24,251,186,113]]
theorem Y7:(List.range 35).map (Vx (gI pA0) (gI pB0))=S0:=by decide +kernel
def S1:List (List Nat):=[[36,94,122,184,9,81,186,10,151,91,83,228,19,182,69,189],[177,56,59,57,233,238,217,135,86,119,145,240,117,244,83,23],[11,121,239,192,220,192,28,201,195,87,20,70,22,116,75,83],[166,65,86,146,95,140,169,163,72,210,68,180,244,158,42,114],[194,34,197,5,22,0,40,130,103,243,155,72,223,172,211,148],[221,31,89,158,166,252,78,233,134,208,117,140,16,167,216,231],[37,109,63,49,65,238,215,186,17,48,57,49,184,131,42,149],[214,247,74,163,45,211,160,62,48,146,111,147,55,24,209,251],[192,104,233,114,136,127,227,114,215,224,42,14,52,131,71,154],[12,180,236,106,192,0,150,45,222,34,110,176,97,188,235,31],[9,16,167,96,135,153,208,244,9,167,174,197,140,245,71,131],[166,41,51,122,229,99,110,105,101,223,173,193,229,22,75,117],[218,91,79,29,18,87,227,24,192,238,78,228,48,224,113,192],[241,83,252,126,239,166,108,115,29,1,38,219,151,1,59,116],[37,152,239,128,210,100,240,66,194,168,218,154,154,190,217,221],[208,46,83,41,188,128,59,234,202,115,132,23,103,74,21,101],[215,10,52,92,34,164,210,178,251,210,209,178,67,179,215,145],[30,73,117,167,189,170,114,167,131,45,75,235,91,67,60,217],[27,115,17,139,82,49,44,229,250,153,248,208,155,61,231,200],[140,234,159,172,81,99,42,196,60,9,250,137,24,184,36,210],[41,134,107,117,6,87,140,6,153,98,115,202,117,9,103,208],[45,125,234,86,134,246,84,89,48,202,19,21,67,98,40,83],[248,251,46,171,97,30,32,224,62,68,212,187,122,128,243,203],[110,97,148,221,180,89,196,122,98,40,110,24,220,219,192,209],[220,29,238,85,125,110,27,28,88,81,222,182,153,33,200,73],[169,48,123,99,5,28,235,85,22,41,246,204,157,190,104,153],[43,40,107,164,36,113,217,192,142,182,58,118,141,78,66,83],[80,58,73,254,0,250,207,56,141,93,197,93,4,65,37,17],[28,136,77,198,191,251,228,134,10,31,97,70,204,32,211,237],[102,104,42,235,28,47,215,56,172,233,202,239,88,210,53,24],[58,94,88,123,248,9,17,253,223,40,232,219,116,171,147,85],[115,96,106,225,130,43,132,203,85,246,127,142,171,247,222,95],[138,53,187,220,227,222,34,183,49,81,205,138,168,195,171,165],[10,30,200,16,196,158,47,243,20,147,37,169,107,59,176,39],[73,47,145,63,136,223,201,61,14,28,182,201,209,73,88,56]]
theorem Tf:(List.range 35).map (Vx (gI pA1) (gI pB1))=S1:=by decide +kernel
end Go.Proofs.YtmhkkalbijbplaaGreatDoor
