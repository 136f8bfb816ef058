/- The proof, part Vd: EngV, EngW, EngX, EngXs, EngXb, EngNg, EngNw, EngMo, EngNk. -/
import Derived.Test.YtmhkkalbijbplaaGreatDoorVc
import Derived.Laws.BitsLemmas
set_option linter.unusedSimpArgs false
set_option linter.unusedVariables false
set_option maxRecDepth 100000
set_option maxHeartbeats 16000000
namespace Go.Sx
open Go
def wR:List (Nat × List SV)→Nat→Option (List SV)
 | [],_=>none
 | (g,cs) :: r,h=>if g=h then some cs else wR r h
theorem Eh:∀ {T:List (Nat × List SV)} {g:Nat} {cs:List SV},wR T g=some cs→(g,cs)∈T
 | (g',cs') :: r,g,cs,h=>by
  unfold wR at h
  split at h
  ·rename_i e;subst e;cases h;exact List.mem_cons_self
  ·exact List.mem_cons_of_mem _ (Eh h)
def eG (fr:Fr):List SV→List (Nat × Nat × Opd)→(List SV→Prop)→Prop
 | cs,[],F=>F cs
 | cs,(off,size,x) :: r,F=>match (x.ev fr).cells? with
  | some l=>l.length=size∧off+size≤cs.length∧eG fr (aF cs off l) r F
  | none=>False
theorem Cv {fr:Fr}:∀ {ps:List (Nat × Nat × Opd)} {cs:List SV} {F:List SV→Prop},eG fr cs ps F→rY fr cs ps F
 | [],_,_,h=>h
 | (off,size,x) :: r,cs,F,h=>by
  unfold eG at h
  unfold rY
  split at h
  ·rename_i l hl;exact⟨l,hl,h.1,h.2.1,Cv h.2.2⟩
  ·exact h.elim
def zD (m:bL) (s:Nat) (v:SV) (F:Nat→List SV→Prop):Prop:=
 match v with
 | .slc i o s' len _=>match rd m i with
  | some B=>s'=s∧o+len * s≤B.cells.length∧F len ((B.cells.drop o).take (len * s))
  | none=>False
 | .val (.slice none 0 0)=>F 0 []
 | .val (.slice (some _) 0 _)=>F 0 []
 | _=>False
def zE (m:bL) (s:Nat) (v:SV) (F:Nat→List SV→Prop):Prop:=
 match v with
 | .str t=>s=1∧F t.length (t.map SV.byte)
 | v=>zD m s v F
theorem H3 {m:bL} {s:Nat} {v:SV} {F:Nat→List SV→Prop} (h:zD m s v F):vS m s v F:=by
 unfold zD at h
 unfold vS
 split at h
 ·split at h
  ·rename_i B hB;exact⟨h.1,B,hB,h.2.1,h.2.2⟩
  ·exact h.elim
 ·exact h
 ·exact h
 ·exact h.elim
theorem H4 {m:bL} {s:Nat} {v:SV} {F:Nat→List SV→Prop} (h:zE m s v F):vT m s v F:=by
 unfold zE at h
 unfold vT
 split at h
 ·exact h
 ·rename_i hne
  split
  ·exact (hne _ rfl).elim
  ·exact H3 h
def iS (T:List (Nat × List SV)) (call:bG) (fr:Fr) (m:bL) (n:Nat) (K:Kt):SOp→Prop
 | .box e x=>match (x.ev fr).cells? with
  | some l=>K (.ptr n 0) ((n,⟨.own e,l⟩) :: m) (n+1)
  | none=>False
 | .build z parts=>eG fr z parts fun cs=>K (.agg cs) m n
 | .bslice e s k z parts=>eG fr z parts fun cs=>K (.slc n 0 s k none) ((n,⟨.own e,cs⟩) :: m) (n+1)
 | .load agg x=>
  match x.ev fr with
  | .ptr i o=>match rd m i with
   | some B=>match agg with
    | none=>match B.cells[o]? with
     | some v=>K v m n
     | none=>False
    | some k=>o+k≤B.cells.length∧K (.agg ((B.cells.drop o).take k)) m n
   | none=>False
  | .gp g o=>match wR T g with
   | some cs=>match agg with
    | none=>match cs[o]? with
     | some v=>K v m n
     | none=>False
    | some k=>o+k≤cs.length∧K (.agg ((cs.drop o).take k)) m n
   | none=>False
  | _=>False
 | .store k a x=>
  match a.ev fr with
  | .ptr i o=>match rd m i with
   | some ⟨.own e,cells⟩=>match (x.ev fr).cells? with
    | some l=>l.length=k∧o+k≤cells.length∧K .any (bC m i ⟨.own e,aF cells o l⟩) n
    | none=>False
   | _=>False
  | _=>False
 | .idxS x i s=>
  match i.ev fr with
  | .int _ ix=>match x.ev fr with
   | .slc b o s' len _=>match rd m b with
    | some B=>s'=s∧0≤ix∧ix < len∧o+ix.toNat * s < B.cells.length∧K (.ptr b (o+ix.toNat * s)) m n
    | none=>False
   | _=>False
  | _=>False
 | .idxV x i len s agg=>
  match i.ev fr with
  | .int _ ix=>match x.ev fr with
   | .agg l=>0≤ix∧ix < len∧match agg with
    | true=>K (.agg ((l.drop (ix.toNat * s)).take s)) m n
    | false=>match l[ix.toNat * s]? with
     | some v=>K v m n
     | none=>False
   | _=>False
  | _=>False
 | .idxT x i=>
  match i.ev fr with
  | .int _ ix=>match x.ev fr with
   | .str t=>0≤ix∧match t[ix.toNat]? with
    | some c=>K (SV.byte c) m n
    | none=>False
   | _=>False
  | _=>False
 | .fieldV x off agg=>
  match x.ev fr with
  | .agg l=>match agg with
   | some k=>K (.agg ((l.drop off).take k)) m n
   | none=>match l[off]? with
    | some v=>K v m n
    | none=>False
  | _=>False
 | .eqv neg pat x y=>
  match x.ev fr,y.ev fr with
  | .agg l,.agg l'=>match eF pat l l' with
   | some b=>K (.bool (if neg then !b else b)) m n
   | none=>False
  | _,_=>False
 | .isNil neg x=>
  match x.ev fr with
  | .val (.slice none 0 0)=>K (.bool (!neg)) m n
  | .val (.slice (some _) _ _)=>K (.bool neg) m n
  | .slc b o _ _ _=>match rd m b with
   | some B=>o < B.cells.length∧K (.bool neg) m n
   | none=>False
  | _=>False
 | .b2s x=>zD m 1 (x.ev fr) fun _ l=>l.all Gv=true∧K (.str (l.map byteOf)) m n
 | .slcS s x lo hi=>
  match x.ev fr with
  | .slc b o s' len cap=>
   s'=s∧(match cap with
    | none=>(match rd m b with
     | some B=>o+len * s≤B.cells.length
     | none=>False)
    | some c=>len≤c) ∧
   iK fr lo 0 fun l=>iK fr hi len fun h=>0≤l∧l≤h∧h≤len ∧
    K (.slc b (o+l.toNat * s) s (h.toNat - l.toNat) (cap.map (· - l.toNat))) m n
  | .val (.slice none 0 0)=>iK fr lo 0 fun l=>iK fr hi 0 fun h=>l=0∧h=0∧K (.val (.slice none 0 0)) m n
  | _=>False
 | .arrAt k x=>
  match x.ev fr with
  | .slc b o _ len _=>match rd m b with
   | some B=>0 < k∧k≤len∧o < B.cells.length∧K (.ptr b o) m n
   | none=>False
  | _=>False
 | .ext x i=>
  match x.ev fr with
  | .tup l=>match l[i]? with
   | some v=>K v m n
   | none=>False
  | _=>False
 | .app e s bytes x y=>
  zE m s (y.ev fr) fun k l=>
  match x.ev fr with
  | .slc i o s' len cap=>match rd m i with
   | some ⟨.own e',cells⟩=>s'=s∧o=0∧cap=none∧(len+k) * bytes≤2 ^ 40∧bytes≤2 ^ 20∧e'=e∧len * s≤cells.length ∧
    K (.slc n 0 s (len+k) none) ((n,⟨.own e,cells.take (len * s)++l⟩) :: rm m i) (n+1)
   | _=>False
  | .val (.slice none 0 0)=>k * bytes≤2 ^ 40∧bytes≤2 ^ 20∧K (.slc n 0 s k none) ((n,⟨.own e,l⟩) :: m) (n+1)
  | _=>False
 | .copy s x y=>
  zE m s (y.ev fr) fun k l=>
  match x.ev fr with
  | .slc i o s' len _=>match rd m i with
   | some ⟨.own e,cells⟩=>s'=s∧o+len * s≤cells.length ∧
    K (.int .i64 (min k len:Nat)) (bC m i ⟨.own e,aF cells o (l.take (min k len * s))⟩) n
   | _=>False
  | _=>False
 | .mput a x key=>
  match x.ev fr with
  | .mp i=>match mI m i with
   | some (a',ks)=>match EF a (key.ev fr) with
    | some kv=>a'=a∧K .any (bC m i ⟨.map a (Bo ks kv),[]⟩) n
    | none=>False
   | none=>False
  | _=>False
 | .mlen x=>
  match x.ev fr with
  | .mp i=>match mI m i with
   | some (_,ks)=>K (.int .i64 ks.length) m n
   | none=>False
  | _=>False
 | .mk8 x=>
  match x.ev fr with
  | .slc i o s len cap=>match rd m i with
   | some ⟨.own e,cells⟩=>0 < len∧0 < cells.length∧K (.slc i o s len cap) (bC m i ⟨.own e,cells⟩) n
   | _=>False
  | _=>False
 | op=>dP T call fr m n K op
theorem Cw {m:bL} {s:Nat} {v:SV} {F G:Nat→List SV→Prop} (h:vT m s v F) (hF:∀ k l,F k l→G k l):vT m s v G:=by
 unfold vT at h ⊢
 split at h
 ·exact⟨h.1,hF _ _ h.2⟩
 ·unfold vS at h ⊢
  split at h
  ·obtain⟨h1,B,h2,h3,h4⟩:=h;exact⟨h1,B,h2,h3,hF _ _ h4⟩
  ·exact hF _ _ h
  ·exact hF _ _ h
  ·exact h.elim
theorem oA {T:List (Nat × List SV)} {call:bG} {fr:Fr} {m:bL} {n:Nat} {K:Kt} (op:SOp) (h:iS T call fr m n K op):dP T call fr m n K op:=by
 cases op with
 | box e x=>
  simp only[iS] at h;simp only[dP]
  split at h
  ·rename_i l hl;exact⟨l,hl,h⟩
  ·exact h.elim
 | build z ps=>simp only[iS] at h;simp only[dP];exact Cv h
 | bslice e s k z ps=>simp only[iS] at h;simp only[dP];exact Cv h
 | load agg x=>
  simp only[iS] at h;simp only[dP]
  generalize x.ev fr=xv at h ⊢
  split at h
  ·split at h
   ·rename_i B hB
    refine⟨B,hB,?_⟩
    cases agg with
    | none=>simp only at h ⊢;split at h
            ·rename_i v hv;exact⟨v,hv,h⟩
            ·exact h.elim
    | some k=>exact h
   ·exact h.elim
  ·split at h
   ·rename_i cs hcs
    refine⟨cs,Eh hcs,?_⟩
    cases agg with
    | none=>simp only at h ⊢;split at h
            ·rename_i v hv;exact⟨v,hv,h⟩
            ·exact h.elim
    | some k=>exact h
   ·exact h.elim
  ·exact h.elim
 | store k a x=>
  simp only[iS] at h;simp only[dP]
  generalize a.ev fr=av at h ⊢
  split at h
  ·split at h
   ·rename_i e cells hB
    split at h
    ·rename_i l hl;exact⟨_,e,l,hB,rfl,hl,h⟩
    ·exact h.elim
   ·exact h.elim
  ·exact h.elim
 | idxS x i s=>
  simp only[iS] at h;simp only[dP,iF]
  generalize i.ev fr=iv at h ⊢
  generalize x.ev fr=xv at h ⊢
  split at h
  ·split at h
   ·split at h
    ·rename_i B hB;exact⟨h.1,h.2.1,h.2.2.1,B,hB,h.2.2.2⟩
    ·exact h.elim
   ·exact h.elim
  ·exact h.elim
 | idxV x i len s agg=>
  simp only[iS] at h;simp only[dP,iF]
  generalize i.ev fr=iv at h ⊢
  generalize x.ev fr=xv at h ⊢
  split at h
  ·split at h
   ·refine⟨h.1,h.2.1,?_⟩
    cases agg with
    | true=>exact h.2.2
    | false=>
     have h:=h.2.2
     simp only at h ⊢;split at h
     ·rename_i v hv;exact⟨v,hv,h⟩
     ·exact h.elim
   ·exact h.elim
  ·exact h.elim
 | idxT x i=>
  simp only[iS] at h;simp only[dP,iF]
  generalize i.ev fr=iv at h ⊢
  generalize x.ev fr=xv at h ⊢
  split at h
  ·split at h
   ·refine⟨h.1,?_⟩
    have h:=h.2
    split at h
    ·rename_i c hc;exact⟨c,hc,h⟩
    ·exact h.elim
   ·exact h.elim
  ·exact h.elim
 | fieldV x off agg=>
  simp only[iS] at h;simp only[dP]
  generalize x.ev fr=xv at h ⊢
  split at h
  ·cases agg with
   | some k=>exact h
   | none=>
    simp only at h ⊢;split at h
    ·rename_i v hv;exact⟨v,hv,h⟩
    ·exact h.elim
  ·exact h.elim
 | eqv neg pat x y=>
  simp only[iS] at h;simp only[dP]
  generalize x.ev fr=xv at h ⊢
  generalize y.ev fr=yv at h ⊢
  split at h
  ·split at h
   ·rename_i b hb;exact⟨b,hb,h⟩
   ·exact h.elim
  ·exact h.elim
 | isNil neg x=>
  simp only[iS] at h;simp only[dP]
  generalize x.ev fr=xv at h ⊢
  split at h
  ·exact h
  ·exact h
  ·split at h
   ·rename_i B hB;exact⟨⟨B,hB,h.1⟩,h.2⟩
   ·exact h.elim
  ·exact h.elim
 | b2s x=>simp only[iS] at h;simp only[dP];exact H3 h
 | slcS s x lo hi=>
  simp only[iS] at h;simp only[dP]
  generalize x.ev fr=xv at h ⊢
  split at h
  ·refine⟨h.1,?_,h.2.2⟩
   have h:=h.2.1
   split at h
   ·split at h
    ·rename_i B hB;exact⟨B,hB,h⟩
    ·exact h.elim
   ·exact h
  ·exact h
  ·exact h.elim
 | mput q x y=>
  simp only[iS] at h;simp only[dP]
  generalize x.ev fr=xv at h ⊢
  split at h
  ·split at h
   ·rename_i a' ks hks
    split at h
    ·rename_i kv hkv
     obtain⟨rfl,h⟩:=h
     exact⟨ks,kv,hks,hkv,h⟩
    ·exact h.elim
   ·exact h.elim
  ·exact h.elim
 | mlen x=>
  simp only[iS] at h;simp only[dP]
  generalize x.ev fr=xv at h ⊢
  split at h
  ·split at h
   ·rename_i a' ks hks;exact⟨_,ks,hks,h⟩
   ·exact h.elim
  ·exact h.elim
 | mk8 x=>
  simp only[iS] at h;simp only[dP]
  generalize x.ev fr=xv at h ⊢
  split at h
  ·split at h
   ·rename_i e cells hB;exact⟨h.1,_,e,hB,rfl,h.2.1,h.2.2⟩
   ·exact h.elim
  ·exact h.elim
 | arrAt k x=>
  simp only[iS] at h;simp only[dP]
  generalize x.ev fr=xv at h ⊢
  split at h
  ·split at h
   ·rename_i B hB;exact⟨h.1,h.2.1,⟨B,hB,h.2.2.1⟩,h.2.2.2⟩
   ·exact h.elim
  ·exact h.elim
 | ext x i=>
  simp only[iS] at h;simp only[dP]
  generalize x.ev fr=xv at h ⊢
  split at h
  ·split at h
   ·rename_i v hv;exact⟨v,hv,h⟩
   ·exact h.elim
  ·exact h.elim
 | app e s bytes x y=>
  simp only[iS] at h;simp only[dP]
  generalize x.ev fr=xv at h ⊢
  refine Cw (H4 h) fun k l h=>?_
  split at h
  ·split at h
   ·rename_i e' cells hB
    obtain⟨h1,h2,h3,h4,h5,h6,h7,h8⟩:=h
    subst h6
    exact⟨h1,h2,h3,h4,h5,_,hB,rfl,h7,h8⟩
   ·exact h.elim
  ·exact h
  ·exact h.elim
 | copy s x y=>
  simp only[iS] at h;simp only[dP]
  generalize x.ev fr=xv at h ⊢
  refine Cw (H4 h) fun k l h=>?_
  split at h
  ·split at h
   ·rename_i e cells hB;exact⟨h.1,_,e,hB,rfl,h.2.1,h.2.2⟩
   ·exact h.elim
  ·exact h.elim
 | _=>exact h
theorem uD {T:List (Nat × List SV)} {c1 c2:bG} (hc:∀ f a m n K,c1 f a m n K→c2 f a m n K) {fr:Fr} {m:bL} {n:Nat} {K:Kt} (op:SOp)
  (h:dP T c1 fr m n K op):dP T c2 fr m n K op:=by
 cases op with
 | call f args=>simp only[dP] at h ⊢;exact hc _ _ _ _ _ h
 | callp f args=>simp only[dP] at h ⊢;exact⟨h.1,hc _ _ _ _ _ h.2⟩
 | callv x args=>
  simp only[dP] at h ⊢
  split at h
  ·exact hc _ _ _ _ _ h
  ·exact h.elim
 | _=>exact h
def KO (T:List (Nat × List SV)) (call:bG):List Opr→Fr→bL→Nat→(Fr→bL→Nat→Prop)→Prop
 | [],fr,m,n,K=>K fr m n
 | o :: r,fr,m,n,K=>
  match o.guard with
  | none=>iS T call fr m n (fun v m' n'=>KO T call r (aU (bQ fr o.dst v) o.kill) m' n' K) o.op
  | some (g,b)=>
   match get fr g with
   | .bool t=>(t=b→iS T call fr m n (fun v m' n'=>KO T call r (aU (bQ fr o.dst v) o.kill) m' n' K) o.op) ∧
    (t=!b→KO T call r (aU (bQ fr o.dst (.val undef)) o.kill) m n K)
   | .val (.tuple _)=>KO T call r (aU (bQ fr o.dst (.val undef)) o.kill) m n K
   | _=>False
def oZ (T:List (Nat × List SV)) (call:bG) (fr0:Fr) (m0:bL):List Opr→List Dn→Nat→(List Dn→Nat→Prop)→Prop
 | [],done,n,K=>K done n
 | o :: r,done,n,K=>
  match o.guard with
  | none=>iS T call (iZ (bM done o.pre) (aU fr0 o.hide)) (eD (fH (bM done o.pre) m0)) n (fun v m' n'=>n≤n'∧oZ T call fr0 m0 r (done++[⟨o.dst,v,dW n m',n,n'⟩]) n' K) o.op
  | some (g,b)=>
   match get (iZ (bM done o.pre) (aU fr0 o.hide)) g with
   | .bool t=>(t=b→iS T call (iZ (bM done o.pre) (aU fr0 o.hide)) (eD (fH (bM done o.pre) m0)) n (fun v m' n'=>n≤n'∧oZ T call fr0 m0 r (done++[⟨o.dst,v,dW n m',n,n'⟩]) n' K) o.op) ∧
    (t=!b→oZ T call fr0 m0 r (done++[⟨o.dst,.val undef,[],n,n⟩]) n K)
   | .val (.tuple _)=>oZ T call fr0 m0 r (done++[⟨o.dst,.val undef,[],n,n⟩]) n K
   | _=>False
def Ei (T:List (Nat × List SV)) (call:bG) (fr0:Fr) (m0:bL):List Opr→List DW→Nat→(List DW→Nat→Prop)→Prop
 | [],done,n,K=>K done n
 | o :: r,done,n,K=>
  match o.op with
  | .store k a x=>o.guard=none∧match a.ev (iZ (bM (cV done) o.pre) (aU fr0 o.hide)) with
   | .ptr b off=>match rd (fH (bM (cV done) o.pre) m0) b with
    | some ⟨.own e,cells⟩=>match (x.ev (iZ (bM (cV done) o.pre) (aU fr0 o.hide))).cells? with
     | some l=>l.length=k∧off+k≤cells.length∧(jC done).contains b=false∧eV b o.pre 0 done ∧
       Ei T call fr0 m0 r (done++[⟨⟨o.dst,.any,[],n,n⟩,some (b,⟨.own e,aF cells off l⟩),none⟩]) n K
     | none=>False
    | _=>False
   | _=>False
  | .mput a x key=>o.guard=none∧match x.ev (iZ (bM (cV done) o.pre) (aU fr0 o.hide)) with
   | .mp b=>match mI (fH (bM (cV done) o.pre) m0) b with
    | some (a',ks)=>match EF a (key.ev (iZ (bM (cV done) o.pre) (aU fr0 o.hide))) with
     | some kv=>a'=a∧(jC done).contains b=false∧eV b o.pre 0 done ∧
       Ei T call fr0 m0 r (done++[⟨⟨o.dst,.any,[],n,n⟩,some (b,⟨.map a (Bo ks kv),[]⟩),none⟩]) n K
     | none=>False
    | none=>False
   | _=>False
  | op=>clear (touch (iZ (bM (cV done) o.pre) (aU fr0 o.hide)) op) (jC done)∧match o.guard with
   | none=>iS T call (iZ (bM (cV done) o.pre) (aU fr0 o.hide)) (eD (fH (bM (cV done) o.pre) m0)) n
     (fun v m' n'=>n≤n'∧Ei T call fr0 m0 r (done++[⟨⟨o.dst,v,dW n m',n,n'⟩,none,touch (iZ (bM (cV done) o.pre) (aU fr0 o.hide)) op⟩]) n' K) op
   | some (g,b)=>
    match get (iZ (bM (cV done) o.pre) (aU fr0 o.hide)) g with
    | .bool t=>(t=b→iS T call (iZ (bM (cV done) o.pre) (aU fr0 o.hide)) (eD (fH (bM (cV done) o.pre) m0)) n
      (fun v m' n'=>n≤n'∧Ei T call fr0 m0 r (done++[⟨⟨o.dst,v,dW n m',n,n'⟩,none,touch (iZ (bM (cV done) o.pre) (aU fr0 o.hide)) op⟩]) n' K) op) ∧
      (t=!b→Ei T call fr0 m0 r (done++[⟨⟨o.dst,.val undef,[],n,n⟩,none,some []⟩]) n K)
    | .val (.tuple _)=>Ei T call fr0 m0 r (done++[⟨⟨o.dst,.val undef,[],n,n⟩,none,some []⟩]) n K
    | _=>False
def H5 (body:Fr→bL→Nat→iY→Prop) (Q:iY):Nat→Fr→bL→Nat→Prop
 | 0,_,_,_=>False
 | k+1,fr,m,n=>body fr m n (wO (H5 body Q k) Q)
theorem Av {T:List (Nat × List SV)} {c2:bG} (hp:lV c2) {n0:Nat} {c:SC} {body:Fr→bL→Nat→iY→Prop} (hb:∀ fr m n Q,body fr m n Q→rP T c2 n0 c fr m n Q) {Q:iY} :
  ∀ {k:Nat} {fr:Fr} {m:bL} {n:Nat},H5 body Q k fr m n→mA n0 (rP T c2 n0 c) Q k fr m n
 | 0,_,_,_,h=>h.elim
 | k+1,fr,m,n,h=>by
  unfold H5 at h
  unfold mA
  refine .inl (jN hp c _ _ _ _ _ (hb _ _ _ _ h) fun e fr m n h=>?_)
  unfold wO at h ⊢
  cases e with
  | normal=>exact Av hp hb h
  | exit id=>exact h
  | ret=>exact h
def MF (T:List (Nat × List SV)) (c1 c2:bG) (u:Option Nat) (n0:Nat):SC→Fr→bL→Nat→iY→Prop
 | .skip,fr,m,n,Q=>Q .normal fr m n
 | .reg ops,fr,m,n,Q=>KO T c1 ops fr m n fun fr' m' n'=>Q .normal fr' m' n'
 | .regD k ops,fr,m,n,Q=>oZ T c1 fr m (ops.take k) [] n fun done n'=>
   KO T c1 (ops.drop k) (aU (iZ done.reverse fr) (jJ (ops.take k))) (fH done.reverse m) n' fun fr' m' n'=>Q .normal fr' m' n'
 | .regK t k ops,fr,m,n,Q=>vE fr m t fun b B=>oZ T (rZ (some (b,B)) c1) fr m (ops.take k) [] n fun done n'=>
   KO T c1 (ops.drop k) (aU (iZ done.reverse fr) (jJ (ops.take k))) (fH done.reverse m) n' fun fr' m' n'=>Q .normal fr' m' n'
 | .regP _ ops,fr,m,n,Q=>KO T c1 ops fr m n fun fr' m' n'=>Q .normal fr' m' n'
 | .regW k ops,fr,m,n,Q=>Ei T c1 fr m (ops.take k) [] n fun done n'=>
   KO T c1 (ops.drop k) (aU (iZ (cV done).reverse fr) (jJ (ops.take k))) (lZ done (fH (cV done).reverse m)) n' fun fr' m' n'=>Q .normal fr' m' n'
 | .bad,_,_,_,_=>False
 | .seq a b,fr,m,n,Q=>MF T c1 c2 u n0 a fr m n (wO (fun fr' m' n'=>MF T c1 c2 u n0 b fr' m' n' Q) Q)
 | .cond x a b,fr,m,n,Q=>nZ (x.ev fr) fun t=>(t=true→MF T c1 c2 u n0 a fr m n Q)∧(t=false→MF T c1 c2 u n0 b fr m n Q)
 | .block id c,fr,m,n,Q=>MF T c1 c2 u n0 c fr m n (NU id Q)
 | .loop c,fr,m,n,Q=>match u with
  | none=>∃ k,mA n0 (rP T c2 n0 c) Q k fr m n
  | some k=>H5 (MF T c1 c2 u n0 c) Q k fr m n
 | .exit id,fr,m,n,Q=>Q (.exit id) fr m n
 | .ret,fr,m,n,Q=>Q .ret fr m n
section
variable {T:List (Nat × List SV)} {c1 c2:bG} {u:Option Nat} (hc:∀ f a m n K,c1 f a m n K→c2 f a m n K) (hp:lV c2) {n0:Nat}
include hc hp
theorem kU:∀ {qs:List Opr} {fr:Fr} {m:bL} {n:Nat} {K:Fr→bL→Nat→Prop},KO T c1 qs fr m n K→z6 T c2 qs fr m n K
 | [],fr,m,n,K,h=>h
 | q :: qs,fr,m,n,K,h=>by
  simp only[KO] at h
  simp only[z6]
  cases hg:q.guard with
  | none=>
   simp only[hg] at h ⊢
   exact iM hp (uD hc _ (oA _ h)) fun v m n h=>kU h
  | some gb=>
   obtain⟨g,b⟩:=gb
   simp only[hg] at h ⊢
   cases hv:get fr g <;> simp only[hv] at h ⊢
   case bool t=>exact⟨fun e=>iM hp (uD hc _ (oA _ (h.1 e))) fun v m n h=>kU h,fun e=>kU (h.2 e)⟩
   case val v=>
    cases v <;> simp only at h ⊢
    exact kU h
theorem qC {fr:Fr} {m:bL}:∀ {qs:List Opr} {done:List Dn} {n:Nat} {K:List Dn→Nat→Prop},oZ T c1 fr m qs done n K→EH T c2 fr m qs done n K
 | [],done,n,K,h=>h
 | q :: qs,done,n,K,h=>by
  simp only[oZ] at h
  simp only[EH]
  cases hg:q.guard with
  | none=>
   simp only[hg] at h ⊢
   exact iM hp (uD hc _ (oA _ h)) fun v m n h=>⟨h.1,qC h.2⟩
  | some gb=>
   obtain⟨g,b⟩:=gb
   simp only[hg] at h ⊢
   cases hv:get (iZ (bM done q.pre) (aU fr q.hide)) g <;> simp only[hv] at h ⊢
   case bool t=>exact⟨fun e=>iM hp (uD hc _ (oA _ (h.1 e))) fun v m n h=>⟨h.1,qC h.2⟩,fun e=>qC (h.2 e)⟩
   case val v=>
    cases v <;> simp only at h ⊢
    exact qC h
theorem oB {fr:Fr} {m:bL}:∀ {qs:List Opr} {done:List DW} {n:Nat} {K:List DW→Nat→Prop},Ei T c1 fr m qs done n K→HN T c2 fr m qs done n K
 | [],done,n,K,h=>h
 | q :: qs,done,n,K,h=>by
  unfold Ei at h
  unfold HN
  simp only
  split at h
  ·rename_i k a x hop
   rw[hop];simp only
   refine⟨h.1,?_⟩
   have h:=h.2
   split at h
   ·rename_i b off hab
    simp only[hab]
    split at h
    ·rename_i e cells hr
     split at h
     ·rename_i l hl
      exact⟨e,cells,l,hr,hl,h.1,h.2.1,h.2.2.1,h.2.2.2.1,oB h.2.2.2.2⟩
     ·exact h.elim
    ·exact h.elim
   ·exact h.elim
  ·rename_i a x key hop
   rw[hop];simp only
   refine⟨h.1,?_⟩
   have h:=h.2
   split at h
   ·rename_i b hab
    simp only[hab]
    split at h
    ·rename_i a' ks hks
     split at h
     ·rename_i kv hkv
      obtain⟨rfl,h1,h2,h3⟩:=h
      exact⟨ks,kv,hks,hkv,h1,h2,oB h3⟩
     ·exact h.elim
    ·exact h.elim
   ·exact h.elim
  ·rename_i hne hne2
   split
   ·rename_i k a x hop;exact (hne _ _ _ hop).elim
   ·rename_i k a x hop;exact (hne2 _ _ _ hop).elim
   refine⟨h.1,?_⟩
   have h:=h.2
   cases hg:q.guard with
   | none=>
    simp only[hg] at h ⊢
    exact iM hp (uD hc _ (oA _ h)) fun v m n h=>⟨h.1,oB h.2⟩
   | some gb=>
    obtain⟨g,b⟩:=gb
    simp only[hg] at h ⊢
    split at h
    ·rename_i t ht;simp only[ht];exact⟨fun e=>iM hp (uD hc _ (oA _ (h.1 e))) fun v m n h=>⟨h.1,oB h.2⟩,fun e=>oB (h.2 e)⟩
    ·rename_i vs ht;simp only[ht];exact oB h
    ·exact h.elim
omit hp in
theorem MG (κ:Option (Nat × Blk)):∀ f a m n K,rZ κ c1 f a m n K→rZ κ c2 f a m n K:=by
 intro f a m n K h
 unfold rZ at h ⊢
 cases κ with
 | none=>exact hc _ _ _ _ _ h
 | some x=>
  simp only at h ⊢
  split at h
  ·exact hc _ _ _ _ _ h
  ·exact hc _ _ _ _ _ h
theorem i4:∀ (c:SC) (fr:Fr) (m:bL) (n:Nat) (Q:iY),MF T c1 c2 u n0 c fr m n Q→rP T c2 n0 c fr m n Q
 | .skip,_,_,_,_,h=>h
 | .reg ops,_,_,_,_,h=>kU hc hp h
 | .regD k ops,_,_,_,_,h=>oX hp (qC hc hp h) fun _ _ h=>kU hc hp h
 | .regK t k ops,_,_,_,_,h=>B4 h fun b B h=>oX (sF hp) (qC (MG hc (some (b,B))) (sF hp) h) fun _ _ h=>kU hc hp h
 | .regP _ ops,_,_,_,_,h=>kU hc hp h
 | .regW k ops,_,_,_,_,h=>oY hp (oB hc hp h) fun _ _ h=>kU hc hp h
 | .bad,_,_,_,_,h=>h
 | .seq a b,_,_,_,Q,h=>by
  simp only[MF] at h
  simp only[rP]
  refine jN hp a _ _ _ _ _ (i4 a _ _ _ _ h) fun e fr m n h=>?_
  unfold wO at h ⊢
  cases e with
  | normal=>exact i4 b _ _ _ _ h
  | exit id=>exact h
  | ret=>exact h
 | .cond x a b,_,_,_,Q,h=>by
  simp only[MF] at h
  simp only[rP]
  exact B5 h fun t h=>⟨fun e=>i4 a _ _ _ _ (h.1 e),fun e=>i4 b _ _ _ _ (h.2 e)⟩
 | .block id c,_,_,_,Q,h=>by
  simp only[MF] at h
  simp only[rP]
  exact i4 c _ _ _ _ h
 | .loop c,_,_,_,Q,h=>by
  have rec0:=i4 c
  simp only[MF] at h
  simp only[rP]
  split at h
  ·exact h
  ·rename_i k
   exact⟨k,Av hp rec0 h⟩
 | .exit id,_,_,_,_,h=>h
 | .ret,_,_,_,_,h=>h
end
inductive It where
 | o (l:List Opr)
 | c (c:SC)
 | b (id:Nat)
 | u (k:Nat) (c:SC)
def UN (T:List (Nat × List SV)) (c1:bG) (k:Nat) (ops:List Opr) (fr:Fr) (m:bL) (Q:iY):List Dn→Nat→Prop:=fun done n'=>
 KO T c1 (ops.drop k) (aU (iZ done.reverse fr) (jJ (ops.take k))) (fH done.reverse m) n' fun fr' m' n'=>Q .normal fr' m' n'
def WP (T:List (Nat × List SV)) (c1:bG) (k:Nat) (ops:List Opr) (fr:Fr) (m:bL) (Q:iY):List DW→Nat→Prop:=fun done n'=>
 KO T c1 (ops.drop k) (aU (iZ (cV done).reverse fr) (jJ (ops.take k))) (lZ done (fH (cV done).reverse m)) n' fun fr' m' n'=>Q .normal fr' m' n'
def iN (T:List (Nat × List SV)) (c1 c2:bG) (u:Option Nat) (n0:Nat) (Q:iY):List It→iY
 | []=>Q
 | .o l :: st=>wO (fun fr m n=>KO T c1 l fr m n fun fr' m' n'=>iN T c1 c2 u n0 Q st .normal fr' m' n') (iN T c1 c2 u n0 Q st)
 | .c c :: st=>wO (fun fr m n=>MF T c1 c2 u n0 c fr m n (iN T c1 c2 u n0 Q st)) (iN T c1 c2 u n0 Q st)
 | .b id :: st=>NU id (iN T c1 c2 u n0 Q st)
 | .u k c :: st=>wO (H5 (MF T c1 c2 u n0 c) (iN T c1 c2 u n0 Q st) k) (iN T c1 c2 u n0 Q st)
def gd (t b:Bool) (X Y:Prop):Prop:=(t=b→X)∧(t=!b→Y)
theorem mU {X Y:Prop}:gd true true X Y=X:=by simp[gd]
theorem H6 {X Y:Prop}:gd false false X Y=X:=by simp[gd]
theorem TI {X Y:Prop}:gd true false X Y=Y:=by simp[gd]
theorem nU {X Y:Prop}:gd false true X Y=Y:=by simp[gd]
theorem N4 {t b:Bool} {X Y:Prop}:gd t b X Y=((t=b→X)∧(t=!b→Y)):=rfl
def UO (T:List (Nat × List SV)) (c1 c2:bG) (u:Option Nat) (n0:Nat) (Q:iY) (l:List Opr) (st:List It) (fr:Fr) (d:Option Nat) (ks:List Nat):Kt:=fun v m' n'=>
 iN T c1 c2 u n0 Q (.o l :: st) .normal (aU (bQ fr d v) ks) m' n'
section
variable {T:List (Nat × List SV)} {c1 c2:bG} {u:Option Nat} {n0:Nat} {Q:iY} {st:List It} {fr:Fr} {m:bL} {n:Nat} {j k:Nat} {l:List Opr} {a b c:SC} {x:Opd} {e:SX}
theorem dN:iN T c1 c2 u n0 Q [] e fr m n=Q e fr m n:=(rfl)
theorem cG:iN T c1 c2 u n0 Q (.o [] :: st) .normal fr m n=iN T c1 c2 u n0 Q st .normal fr m n:=(rfl)
theorem cB {d:Option Nat} {op:SOp} {ks p h:List Nat}:iN T c1 c2 u n0 Q (.o (⟨d,op,none,ks,p,h⟩ :: l) :: st) .normal fr m n =
 iS T c1 fr m n (UO T c1 c2 u n0 Q l st fr d ks) op:=(rfl)
theorem aW {d:Option Nat} {ks:List Nat} {v:SV}:UO T c1 c2 u n0 Q l st fr d ks v m n=iN T c1 c2 u n0 Q (.o l :: st) .normal (aU (bQ fr d v) ks) m n:=(rfl)
theorem UP {d:Option Nat} {op:SOp} {g:Nat} {t:Bool} {ks p h:List Nat}:iN T c1 c2 u n0 Q (.o (⟨d,op,some (g,t),ks,p,h⟩ :: l) :: st) .normal fr m n =
 (match get fr g with
  | .bool t'=>(t'=t→iS T c1 fr m n (fun v m' n'=>iN T c1 c2 u n0 Q (.o l :: st) .normal (aU (bQ fr d v) ks) m' n') op) ∧
   (t'=!t→iN T c1 c2 u n0 Q (.o l :: st) .normal (aU (bQ fr d (.val undef)) ks) m n)
  | .val (.tuple _)=>iN T c1 c2 u n0 Q (.o l :: st) .normal (aU (bQ fr d (.val undef)) ks) m n
  | _=>False):=(rfl)
theorem eK:iN T c1 c2 u n0 Q (.c .skip :: st) .normal fr m n=iN T c1 c2 u n0 Q st .normal fr m n:=(rfl)
theorem b6:iN T c1 c2 u n0 Q (.c (.reg l) :: st) .normal fr m n=iN T c1 c2 u n0 Q (.o l :: st) .normal fr m n:=(rfl)
theorem AG:iN T c1 c2 u n0 Q (.c (.regP k l) :: st) .normal fr m n=iN T c1 c2 u n0 Q (.o l :: st) .normal fr m n:=(rfl)
theorem Cx:iN T c1 c2 u n0 Q (.c (.regD k l) :: st) .normal fr m n=oZ T c1 fr m (l.take k) [] n (UN T c1 k l fr m (iN T c1 c2 u n0 Q st)):=(rfl)
theorem N5 {t:Nat}:iN T c1 c2 u n0 Q (.c (.regK t k l) :: st) .normal fr m n=vE fr m t fun b B=>oZ T (rZ (some (b,B)) c1) fr m (l.take k) [] n (UN T c1 k l fr m (iN T c1 c2 u n0 Q st)):=(rfl)
theorem Cy:iN T c1 c2 u n0 Q (.c (.regW k l) :: st) .normal fr m n=Ei T c1 fr m (l.take k) [] n (WP T c1 k l fr m (iN T c1 c2 u n0 Q st)):=(rfl)
theorem N6 {d:List DW}:WP T c1 k l fr m (iN T c1 c2 u n0 Q st) d n =
 iN T c1 c2 u n0 Q (.o (l.drop k) :: st) .normal (aU (iZ (cV d).reverse fr) (jJ (l.take k))) (lZ d (fH (cV d).reverse m)) n:=(rfl)
theorem KP:iN T c1 c2 u n0 Q (.c .bad :: st) .normal fr m n=False:=(rfl)
theorem N7 {d:List Dn}:UN T c1 k l fr m (iN T c1 c2 u n0 Q st) d n =
 iN T c1 c2 u n0 Q (.o (l.drop k) :: st) .normal (aU (iZ d.reverse fr) (jJ (l.take k))) (fH d.reverse m) n:=(rfl)
theorem cC:iN T c1 c2 u n0 Q (.c (.seq a b) :: st) .normal fr m n=iN T c1 c2 u n0 Q (.c a :: .c b :: st) .normal fr m n:=(rfl)
theorem dB:iN T c1 c2 u n0 Q (.c (.cond x a b) :: st) .normal fr m n =
 (match x.ev fr with
  | .bool t=>gd t true (iN T c1 c2 u n0 Q (.c a :: st) .normal fr m n) (iN T c1 c2 u n0 Q (.c b :: st) .normal fr m n)
  | _=>False):=(rfl)
theorem cK:iN T c1 c2 u n0 Q (.c (.block j c) :: st) .normal fr m n=iN T c1 c2 u n0 Q (.c c :: .b j :: st) .normal fr m n:=(rfl)
theorem Ej {k:Nat}:iN T c1 c2 (some k) n0 Q (.c (.loop c) :: st) .normal fr m n=iN T c1 c2 (some k) n0 Q (.u k c :: st) .normal fr m n:=(rfl)
theorem aL:iN T c1 c2 none n0 Q (.c (.loop c) :: st) .normal fr m n=∃ k,mA n0 (rP T c2 n0 c) (iN T c1 c2 none n0 Q st) k fr m n:=(rfl)
theorem i5:iN T c1 c2 u n0 Q (.c (.exit j) :: st) .normal fr m n=iN T c1 c2 u n0 Q st (.exit j) fr m n:=(rfl)
theorem iW:iN T c1 c2 u n0 Q (.c .ret :: st) .normal fr m n=iN T c1 c2 u n0 Q st .ret fr m n:=(rfl)
theorem mX:iN T c1 c2 u n0 Q (.b j :: st) .normal fr m n=iN T c1 c2 u n0 Q st .normal fr m n:=(rfl)
theorem oC:iN T c1 c2 u n0 Q (.b j :: st) (.exit k) fr m n=if k=j then iN T c1 c2 u n0 Q st .normal fr m n else iN T c1 c2 u n0 Q st (.exit k) fr m n:=(rfl)
theorem N8:iN T c1 c2 u n0 Q (.o l :: st) (.exit k) fr m n=iN T c1 c2 u n0 Q st (.exit k) fr m n:=(rfl)
theorem oD:iN T c1 c2 u n0 Q (.c c :: st) (.exit k) fr m n=iN T c1 c2 u n0 Q st (.exit k) fr m n:=(rfl)
theorem Fh:iN T c1 c2 u n0 Q (.u j c :: st) (.exit k) fr m n=iN T c1 c2 u n0 Q st (.exit k) fr m n:=(rfl)
theorem N9:iN T c1 c2 u n0 Q (.b j :: st) .ret fr m n=iN T c1 c2 u n0 Q st .ret fr m n:=(rfl)
theorem Na:iN T c1 c2 u n0 Q (.o l :: st) .ret fr m n=iN T c1 c2 u n0 Q st .ret fr m n:=(rfl)
theorem Nb:iN T c1 c2 u n0 Q (.c c :: st) .ret fr m n=iN T c1 c2 u n0 Q st .ret fr m n:=(rfl)
theorem Nc:iN T c1 c2 u n0 Q (.u j c :: st) .ret fr m n=iN T c1 c2 u n0 Q st .ret fr m n:=(rfl)
theorem H7:iN T c1 c2 u n0 Q (.u (k+1) c :: st) .normal fr m n=iN T c1 c2 u n0 Q (.c c :: .u k c :: st) .normal fr m n:=(rfl)
theorem a8 (hc:∀ f a m n K,c1 f a m n K→c2 f a m n K) (hp:lV c2) (k:Nat) (h:iN T c1 c2 u n0 Q (.u k c :: st) .normal fr m n) :
 ∃ k,mA n0 (rP T c2 n0 c) (iN T c1 c2 u n0 Q st) k fr m n:=⟨k,Av hp (i4 hc hp c) h⟩
def KQ {σ:Type} (n0:Nat) (F:σ→Fr) (M:σ→bL) (B:σ→Nat) (Inv:σ→Prop) (μ:σ→Nat) (s:σ) (Q:iY):iY:=
 wO (fun fr' m' n'=>∃ s',Qq n0 fr' m' n' (F s') (M s') (B s')∧Inv s'∧μ s' < μ s) Q
theorem bF {P:Program} (hc:∀ f a m n K,c1 f a m n K→aY P T f a m n K) {σ:Type}
  (F:σ→Fr) (M:σ→bL) (B:σ→Nat) (Inv:σ→Prop) (μ:σ→Nat) (s:σ) (hE:Qq n0 fr m n (F s) (M s) (B s)) (hI:Inv s)
  (round:∀ s,Inv s→iN T c1 (aY P T) u n0 (KQ n0 F M B Inv μ s (iN T c1 (aY P T) u n0 Q st)) [.c c] .normal (F s) (M s) (B s)) :
  ∃ k,mA n0 (rP T (aY P T) n0 c) (iN T c1 (aY P T) u n0 Q st) k fr m n:=
 MC F M B Inv μ s hE hI fun s hs=>i4 hc (aN P T) _ _ _ _ _ (round s hs)
theorem iA {σ:Type} {F:σ→Fr} {M:σ→bL} {B:σ→Nat} {Inv:σ→Prop} {μ:σ→Nat} {s:σ} {Q:iY} :
 KQ n0 F M B Inv μ s Q .normal fr m n=∃ s',Qq n0 fr m n (F s') (M s') (B s')∧Inv s'∧μ s' < μ s:=(rfl)
theorem nJ {σ:Type} {F:σ→Fr} {M:σ→bL} {B:σ→Nat} {Inv:σ→Prop} {μ:σ→Nat} {s:σ} {Q:iY} :
 KQ n0 F M B Inv μ s Q (.exit j) fr m n=Q (.exit j) fr m n:=(rfl)
theorem KR {σ:Type} {F:σ→Fr} {M:σ→bL} {B:σ→Nat} {Inv:σ→Prop} {μ:σ→Nat} {s:σ} {Q:iY} :
 KQ n0 F M B Inv μ s Q .ret fr m n=Q .ret fr m n:=rfl
-- the shape in which simp unfolds first
theorem sI {v:SV} {F:Int→Prop}:iF v F=(match v with|.int _ n=>F n|_=>False):=(rfl)
theorem H8 {v:SV} {F:Bool→Prop}:nZ v F=(match v with|.bool b=>F b|_=>False):=(rfl)
theorem uE {d:Int} {F:Int→Prop}:iK fr none d F=F d:=(rfl)
theorem Cz {d:Int} {F:Int→Prop}:iK fr (some x) d F=(match x.ev fr with|.int _ n=>F n|_=>False):=(rfl)
theorem eJ {op:BinOp} {x y:SV} {F:SV→Prop}:Gu op x y F=(match x,y with
 | .int k a,.int k' b=>cL op k k' a b F
 | .str a,.str b=>nX op a b F
 | _,_=>False):=(rfl)
theorem iO {s:Nat} {v:SV} {F:Nat→List SV→Prop}:zE m s v F=(match v with
 | .str t=>s=1∧F t.length (t.map SV.byte)
 | v=>zD m s v F):=(rfl)
theorem gK {s:Nat} {v:SV} {F:Nat→List SV→Prop}:zD m s v F=(match v with
 | .slc i o s' len _=>match rd m i with
  | some B=>s'=s∧o+len * s≤B.cells.length∧F len ((B.cells.drop o).take (len * s))
  | none=>False
 | .val (.slice none 0 0)=>F 0 []
 | .val (.slice (some _) 0 _)=>F 0 []
 | _=>False):=(rfl)
end
def dY (T:List (Nat × List SV)) (fr:Fr):List RV→bL→Nat→(List SV→bL→Nat→Prop)→Prop
 | [],m,n,K=>K [] m n
 | .t d :: r,m,n,K=>dY T fr r m n fun l m n=>K (get fr d :: l) m n
 | .c d g :: r,m,n,K=>iS T (fun _ _ _ _ _=>False) fr m n (fun v m n=>dY T fr r m n fun l m n=>K (v :: l) m n) (.load g (.t d))
theorem vF {T:List (Nat × List SV)} {fr:Fr}:∀ {rs:List RV} {m:bL} {n:Nat} {K K':List SV→bL→Nat→Prop},sH T fr rs m n K→(∀ l m n,K l m n→K' l m n)→sH T fr rs m n K'
 | [],m,n,K,K',h,hK=>hK _ _ _ h
 | .t d :: r,m,n,K,K',h,hK=>vF (rs:=r) h fun l m n h=>hK _ _ _ h
 | .c d g :: r,m,n,K,K',h,hK=>by
  simp only[sH] at h ⊢
  exact iM (fun _ _ _ _ _ h=>h.elim) h fun v m n h=>vF h fun l m n h=>hK _ _ _ h
theorem mY {T:List (Nat × List SV)} {fr:Fr}:∀ {rs:List RV} {m:bL} {n:Nat} {K:List SV→bL→Nat→Prop},dY T fr rs m n K→sH T fr rs m n K
 | [],m,n,K,h=>h
 | .t d :: r,m,n,K,h=>mY (rs:=r) h
 | .c d g :: r,m,n,K,h=>by
  simp only[dY] at h
  simp only[sH]
  exact iM (fun _ _ _ _ _ h=>h.elim) (oA _ h) fun v m n h=>mY h
def Fi (T:List (Nat × List SV)) (res:List RV) (r:SV):iY:=fun e fr m n=>
 match e with
 | .exit _=>False
 | _=>dY T fr res m n fun l _ _=>dX l=r
theorem vG {T:List (Nat × List SV)} {res:List RV} {r:SV} {fr:Fr} {m:bL} {n:Nat}:Fi T res r .ret fr m n=dY T fr res m n fun l _ _=>dX l=r:=(rfl)
theorem Nd {T:List (Nat × List SV)} {res:List RV} {r:SV} {fr:Fr} {m:bL} {n:Nat}:Fi T res r .normal fr m n=dY T fr res m n fun l _ _=>dX l=r:=(rfl)
theorem Nf {T:List (Nat × List SV)} {res:List RV} {r:SV} {fr:Fr} {m:bL} {n j:Nat}:Fi T res r (.exit j) fr m n=False:=(rfl)
theorem Ng {P:Program} {T:List (Nat × List SV)} (u:Option Nat) (c1:bG) (hF:∀ f a m n K,c1 f a m n K→aY P T f a m n K) {f:FuncId} {sf:SF} {args:List SV} {r:SV}
  (hc:cY P f sf=true) (hlen:args.length≤sf.n) (hr:∀ η,r.ren η=r)
  (h:iN T c1 (aY P T) u 0 (Fi T sf.res r) [.c sf.body] .normal (gV 0 args) [] 0):Fun P T f args [] 0 r [] 0:=by
 refine wP hc hlen (Nat.le_refl _) (jN (aN P T) _ _ _ _ _ _ (i4 hF (aN P T) _ _ _ _ _ h) fun e fr m n h=>?_)
 have key:(dY T fr sf.res m n fun l _ _=>dX l=r)→sH T fr sf.res m n fun l m1 n1=>∃ hs,dS 0 m1 n1 hs [] 0∧dX l=r.ren (bB hs n1):=fun h=>
  vF (mY h) fun l m n h=>⟨[],⟨rfl,Nat.le_refl _,rfl,trivial,trivial,trivial⟩,by rw[hr];exact h⟩
 cases e with
 | normal=>exact key h
 | exit j=>exact h
 | ret=>exact key h
section
variable {T:List (Nat × List SV)} {call:bG} {fr:Fr} {m:bL} {n:Nat} {K:Kt}
theorem B6 {e:TypeId} {x:Opd}:iS T call fr m n K (.box e x)=(match (x.ev fr).cells? with
 | some l=>K (.ptr n 0) ((n,⟨.own e,l⟩) :: m) (n+1)
 | none=>False):=(rfl)
theorem Fj {z:List SV} {parts:List (Nat × Nat × Opd)}:iS T call fr m n K (.build z parts)=(eG fr z parts fun cs=>K (.agg cs) m n):=(rfl)
theorem g8 {e:TypeId} {s:Nat} {k:Nat} {z:List SV} {parts:List (Nat × Nat × Opd)}:iS T call fr m n K (.bslice e s k z parts)=(eG fr z parts fun cs=>K (.slc n 0 s k none) ((n,⟨.own e,cs⟩) :: m) (n+1)):=(rfl)
theorem mL {agg:Option Nat} {x:Opd}:iS T call fr m n K (.load agg x)=(match x.ev fr with
 | .ptr i o=>match rd m i with
  | some B=>match agg with
   | none=>match B.cells[o]? with
    | some v=>K v m n
    | none=>False
   | some k=>o+k≤B.cells.length∧K (.agg ((B.cells.drop o).take k)) m n
  | none=>False
 | .gp g o=>match wR T g with
  | some cs=>match agg with
   | none=>match cs[o]? with
    | some v=>K v m n
    | none=>False
   | some k=>o+k≤cs.length∧K (.agg ((cs.drop o).take k)) m n
  | none=>False
 | _=>False):=(rfl)
theorem nK {k:Nat} {a:Opd} {x:Opd}:iS T call fr m n K (.store k a x)=(match a.ev fr with
 | .ptr i o=>match rd m i with
  | some ⟨.own e,cells⟩=>match (x.ev fr).cells? with
   | some l=>l.length=k∧o+k≤cells.length∧K .any (bC m i ⟨.own e,aF cells o l⟩) n
   | none=>False
  | _=>False
 | _=>False):=(rfl)
theorem DA {x:Opd} {i:Opd} {s:Nat}:iS T call fr m n K (.idxS x i s)=(match i.ev fr with
 | .int _ ix=>match x.ev fr with
  | .slc b o s' len _=>match rd m b with
   | some B=>s'=s∧0≤ix∧ix < len∧o+ix.toNat * s < B.cells.length∧K (.ptr b (o+ix.toNat * s)) m n
   | none=>False
  | _=>False
 | _=>False):=(rfl)
theorem J8 {x:Opd} {i:Opd} {len:Nat} {s:Nat} {agg:Bool}:iS T call fr m n K (.idxV x i len s agg)=(match i.ev fr with
 | .int _ ix=>match x.ev fr with
  | .agg l=>0≤ix∧ix < len∧match agg with
   | true=>K (.agg ((l.drop (ix.toNat * s)).take s)) m n
   | false=>match l[ix.toNat * s]? with
    | some v=>K v m n
    | none=>False
  | _=>False
 | _=>False):=(rfl)
theorem Fl {x:Opd} {i:Opd}:iS T call fr m n K (.idxT x i)=(match i.ev fr with
 | .int _ ix=>match x.ev fr with
  | .str t=>0≤ix∧match t[ix.toNat]? with
   | some c=>K (SV.byte c) m n
   | none=>False
  | _=>False
 | _=>False):=(rfl)
theorem H9 {x:Opd} {off:Nat} {agg:Option Nat}:iS T call fr m n K (.fieldV x off agg)=(match x.ev fr with
 | .agg l=>match agg with
  | some k=>K (.agg ((l.drop off).take k)) m n
  | none=>match l[off]? with
   | some v=>K v m n
   | none=>False
 | _=>False):=(rfl)
theorem TJ {neg:Bool} {pat:List Tag} {x:Opd} {y:Opd}:iS T call fr m n K (.eqv neg pat x y)=(match x.ev fr,y.ev fr with
 | .agg l,.agg l'=>match eF pat l l' with
  | some b=>K (.bool (if neg then !b else b)) m n
  | none=>False
 | _,_=>False):=(rfl)
theorem KT {neg:Bool} {x:Opd}:iS T call fr m n K (.isNil neg x)=(match x.ev fr with
 | .val (.slice none 0 0)=>K (.bool (!neg)) m n
 | .val (.slice (some _) _ _)=>K (.bool neg) m n
 | .slc b o _ _ _=>match rd m b with
  | some B=>o < B.cells.length∧K (.bool neg) m n
  | none=>False
 | _=>False):=(rfl)
theorem DB {x:Opd}:iS T call fr m n K (.b2s x)=(zD m 1 (x.ev fr) fun _ l=>l.all Gv=true∧K (.str (l.map byteOf)) m n):=(rfl)
theorem Nh {s:Nat} {x:Opd} {lo:Option Opd} {hi:Option Opd}:iS T call fr m n K (.slcS s x lo hi)=(match x.ev fr with
 | .slc b o s' len cap=>
  s'=s∧(match cap with
   | none=>(match rd m b with
    | some B=>o+len * s≤B.cells.length
    | none=>False)
   | some c=>len≤c) ∧
  iK fr lo 0 fun l=>iK fr hi len fun h=>0≤l∧l≤h∧h≤len ∧
   K (.slc b (o+l.toNat * s) s (h.toNat - l.toNat) (cap.map (· - l.toNat))) m n
 | .val (.slice none 0 0)=>iK fr lo 0 fun l=>iK fr hi 0 fun h=>l=0∧h=0∧K (.val (.slice none 0 0)) m n
 | _=>False):=(rfl)
theorem Fm {k:Nat} {x:Opd}:iS T call fr m n K (.arrAt k x)=(match x.ev fr with
 | .slc b o _ len _=>match rd m b with
  | some B=>0 < k∧k≤len∧o < B.cells.length∧K (.ptr b o) m n
  | none=>False
 | _=>False):=(rfl)
theorem TK {x:Opd} {i:Nat}:iS T call fr m n K (.ext x i)=(match x.ev fr with
 | .tup l=>match l[i]? with
  | some v=>K v m n
  | none=>False
 | _=>False):=(rfl)
theorem o3 {e:TypeId} {s:Nat} {bytes:Nat} {x:Opd} {y:Opd}:iS T call fr m n K (.app e s bytes x y)=(zE m s (y.ev fr) fun k l=>
 match x.ev fr with
 | .slc i o s' len cap=>match rd m i with
  | some ⟨.own e',cells⟩=>s'=s∧o=0∧cap=none∧(len+k) * bytes≤2 ^ 40∧bytes≤2 ^ 20∧e'=e∧len * s≤cells.length ∧
   K (.slc n 0 s (len+k) none) ((n,⟨.own e,cells.take (len * s)++l⟩) :: rm m i) (n+1)
  | _=>False
 | .val (.slice none 0 0)=>k * bytes≤2 ^ 40∧bytes≤2 ^ 20∧K (.slc n 0 s k none) ((n,⟨.own e,l⟩) :: m) (n+1)
 | _=>False):=(rfl)
theorem Ni {s:Nat} {x:Opd} {y:Opd}:iS T call fr m n K (.copy s x y)=(zE m s (y.ev fr) fun k l=>
 match x.ev fr with
 | .slc i o s' len _=>match rd m i with
  | some ⟨.own e,cells⟩=>s'=s∧o+len * s≤cells.length ∧
   K (.int .i64 (min k len:Nat)) (bC m i ⟨.own e,aF cells o (l.take (min k len * s))⟩) n
  | _=>False
 | _=>False):=(rfl)
theorem fZ {x:Opd}:iS T call fr m n K (.mv x)=(K (x.ev fr) m n):=(rfl)
theorem Fo {c:Opd} {a:Opd} {b:Opd}:iS T call fr m n K (.pick c a b)=(match c.ev fr with|.bool t=>gd t true (K (a.ev fr) m n) (K (b.ev fr) m n)|_=>False):=(rfl)
theorem AH {e:TypeId} {z:List SV}:iS T call fr m n K (.new e z)=(K (.ptr n 0) ((n,⟨.own e,z⟩) :: m) (n+1)):=(rfl)
theorem Nj {x:Opd}:iS T call fr m n K (.nilc x)=(match x.ev fr with
 | .ptr i o=>K (.ptr i o) m n
 | .gp g o=>K (.gp g o) m n
 | .fn f a b=>K (.fn f a b) m n
 | _=>False):=(rfl)
theorem TL {x:Opd} {off:Nat}:iS T call fr m n K (.fld x off)=(match x.ev fr with
 | .ptr i o=>K (.ptr i (o+off)) m n
 | .gp g o=>K (.gp g (o+off)) m n
 | _=>False):=(rfl)
theorem wS {x:Opd} {i:Opd} {len:Nat} {s:Nat}:iS T call fr m n K (.idxA x i len s)=(iF (i.ev fr) fun ix=>0≤ix∧ix < len ∧
 match x.ev fr with
 | .ptr b o=>K (.ptr b (o+ix.toNat * s)) m n
 | .gp b o=>K (.gp b (o+ix.toNat * s)) m n
 | _=>False):=(rfl)
theorem gL {op:BinOp} {x:Opd} {y:Opd}:iS T call fr m n K (.bin op x y)=(Gu op (x.ev fr) (y.ev fr) fun v=>K v m n):=(rfl)
theorem TM {neg:Bool} {x:Opd} {y:Opd}:iS T call fr m n K (.eqb neg x y)=(match x.ev fr,y.ev fr with
 | .bool a,.bool c=>K (.bool (if neg then !(a==c) else a==c)) m n
 | _,_=>False):=(rfl)
theorem MH {op:UnOp} {x:Opd}:iS T call fr m n K (.un op x)=(match op,x.ev fr with
 | .not,.bool b=>K (.bool (!b)) m n
 | .neg,.int k a=>K (.int k (k.wrap (0 - a))) m n
 | .xor,.int k a=>K (.int k (dL .xor k (if k.signed then -1 else k.max) a)) m n
 | _,_=>False):=(rfl)
theorem J9 {k:IntKind} {x:Opd}:iS T call fr m n K (.conv k x)=(match x.ev fr with
 | .int _ a=>K (.int k (k.wrap a)) m n
 | _=>False):=(rfl)
theorem Nk {x:Opd}:iS T call fr m n K (.strS x)=(match x.ev fr with
 | .str t=>K (.str t) m n
 | _=>False):=(rfl)
theorem Nl {e:TypeId} {x:Opd}:iS T call fr m n K (.s2b e x)=(match x.ev fr with
 | .str t=>K (.slc n 0 1 t.length none) ((n,⟨.own e,t.map SV.byte⟩) :: m) (n+1)
 | _=>False):=(rfl)
theorem Fp {f:FuncId} {first:List Opd} {cap:List Opd}:iS T call fr m n K (.mkfn f first cap)=(K (.fn f (first.map (·.ev fr)) (cap.map (·.ev fr))) m n):=(rfl)
theorem Nm {e:TypeId} {s:Nat} {bytes:Nat} {z:List SV} {l:Opd} {c:Opd}:iS T call fr m n K (.mksl e s bytes z l c)=(iF (l.ev fr) fun ln=>iF (c.ev fr) fun cp=>0≤ln∧ln≤cp∧cp * bytes≤2 ^ 40∧cp≤2 ^ 40 ∧
 K (.slc n 0 s ln.toNat none) ((n,⟨.own e,Mr cp.toNat z⟩) :: m) (n+1)):=(rfl)
theorem Aw {k:Nat} {s:Nat} {x:Opd} {lo:Option Opd} {hi:Option Opd}:iS T call fr m n K (.slcA k s x lo hi)=(match x.ev fr with
 | .ptr b o=>iK fr lo 0 fun l=>iK fr hi k fun h=>0≤l∧l≤h∧h≤k ∧
  K (.slc b (o+l.toNat * s) s (h.toNat - l.toNat) (some (k - l.toNat))) m n
 | _=>False):=(rfl)
theorem Nn {x:Opd} {lo:Option Opd} {hi:Option Opd}:iS T call fr m n K (.slcT x lo hi)=(match x.ev fr with
 | .str t=>iK fr lo 0 fun l=>iK fr hi t.length fun h=>0≤l∧l≤h∧h≤t.length ∧
  K (.str ((t.drop l.toNat).take (h.toNat - l.toNat))) m n
 | _=>False):=(rfl)
theorem i6 {f:FuncId} {args:List Opd}:iS T call fr m n K (.call f args)=(call f (args.map (·.ev fr)) m n K):=(rfl)
theorem AI {f:FuncId} {args:List Opd}:iS T call fr m n K (.callp f args)=(SV.flatL (args.map (·.ev fr))=true∧call f (args.map (·.ev fr)) [] 0 fun v m' n'=>m'=[]∧n'=0∧v.flat=true∧K v m n):=(rfl)
theorem CE {x:Opd} {args:List Opd}:iS T call fr m n K (.callv x args)=(match x.ev fr with
 | .fn f first cap=>call f (first++args.map (·.ev fr)++cap) m n K
 | _=>False):=(rfl)
theorem sJ {isStr:Bool} {x:Opd}:iS T call fr m n K (.len isStr x)=(match isStr,x.ev fr with
 | true,.str t=>K (.int .i64 t.length) m n
 | false,.slc _ _ _ l _=>K (.int .i64 l) m n
 | false,.val (.slice none 0 0)=>K (.int .i64 0) m n
 | _,_=>False):=(rfl)
theorem Np {k:Nat}:iS T call fr m n K (.lenA k)=(K (.int .i64 k) m n):=(rfl)
theorem KU {a:Option Nat}:iS T call fr m n K (.mkmap a)=K (.mp n) ((n,⟨.map a [],[]⟩) :: m) (n+1):=(rfl)
theorem Nq {a:Option Nat} {x key:Opd}:iS T call fr m n K (.mput a x key)=(match x.ev fr with
 | .mp i=>match mI m i with
  | some (a',ks)=>match EF a (key.ev fr) with
   | some kv=>a'=a∧K .any (bC m i ⟨.map a (Bo ks kv),[]⟩) n
   | none=>False
  | none=>False
 | _=>False):=(rfl)
theorem Nr {x:Opd}:iS T call fr m n K (.mlen x)=(match x.ev fr with
 | .mp i=>match mI m i with
  | some (_,ks)=>K (.int .i64 ks.length) m n
  | none=>False
 | _=>False):=(rfl)
theorem TN {x:Opd}:iS T call fr m n K (.mk8 x)=(match x.ev fr with
 | .slc i o s len cap=>match rd m i with
  | some ⟨.own e,cells⟩=>0 < len∧0 < cells.length∧K (.slc i o s len cap) (bC m i ⟨.own e,cells⟩) n
  | _=>False
 | _=>False):=(rfl)
theorem Ns {neg:Bool} {x y:Opd}:iS T call fr m n K (.pcmp neg x y)=(match x.ev fr,y.ev fr with
 | .val (.pointer none),.val (.pointer none)=>K (.bool (!neg)) m n
 | .ptr _ _,.val (.pointer none)=>K (.bool neg) m n
 | .ptr i o,.ptr j o'=>i=j∧o=o'∧K (.bool (!neg)) m n
 | _,_=>False):=(rfl)
theorem TO {e:TypeId} {k:Nat} {x:Opd}:iS T call fr m n K (.cvp e k x)=(match x.ev fr with
 | .ptr i o=>match rd m i with
  | some ⟨.own e',cells⟩=>e'=e∧o=0∧cells.length=k∧K (.ptr i o) m n
  | _=>False
 | _=>False):=(rfl)
theorem KW {f:FuncId} {x:Opd}:iS T call fr m n K (.noesc f x)=K (x.ev fr) m n:=(rfl)
theorem Nt {s:Nat} {x:Opd}:iS T call fr m n K (.sdat s x)=(match x.ev fr with
 | .slc i o s' _ none=>match rd m i with
  | some B=>s'=s∧o+s≤B.cells.length∧K (.ptr i o) m n
  | none=>False
 | _=>False):=(rfl)
theorem Nu {e:TypeId} {x y:Opd}:iS T call fr m n K (.ustr e x y)=(match x.ev fr,y.ev fr with
 | .ptr i o,.int .i64 l=>match rd m i with
  | some ⟨.own e',cells⟩=>e'=e∧o=0∧0 < l∧l≤9223372036854775807∧l.toNat≤cells.length∧(cells.take l.toNat).all mH=true∧K (.str ((cells.take l.toNat).map byteOf)) (bC m i ⟨.view,cells⟩) n
  | _=>False
 | _,_=>False):=(rfl)
theorem Nv {x:Opd}:iS T call fr m n K (.capN x)=(match x.ev fr with
 | .val (.slice none 0 0)=>K (.int .i64 0) m n
 | _=>False):=(rfl)
theorem Nw {e:TypeId} {s bytes:Nat} {z:List SV} {x k:Opd}:iS T call fr m n K (.appZ e s bytes z x k)=(iF (k.ev fr) fun k=>
 match x.ev fr with
 | .val (.slice none 0 0)=>0 < k∧k * bytes≤2 ^ 40∧bytes≤2 ^ 20∧K (.slc n 0 s k.toNat none) ((n,⟨.own e,Mr k.toNat z⟩) :: m) (n+1)
 | _=>False):=(rfl)
theorem WQ {x:Opd} {y:Opd}:iS T call fr m n K (.mx x y)=(match x.ev fr,y.ev fr with
 | .int k a,.int _ b=>K (.int k (if b > a then b else a)) m n
 | _,_=>False):=(rfl)
theorem WR {x:Opd} {y:Opd}:iS T call fr m n K (.mn x y)=(match x.ev fr,y.ev fr with
 | .int k a,.int _ b=>K (.int k (if b < a then b else a)) m n
 | _,_=>False):=(rfl)
end
def yP:Fr→Nat→SV→Fr
 | [],_,_=>[]
 | (e,u) :: r,g,v=>if e=g then (e,v) :: r else (e,u) :: yP r g v
theorem uF:∀ {fr:Fr} {g:Nat} {v:SV},Sx.get fr g=v→yP fr g v=fr
 | [],_,_,_=>rfl
 | (e,u) :: r,g,v,h=>by
  unfold Sx.get at h
  unfold yP
  split
  ·rename_i he;rw[if_pos he] at h;rw[h]
  ·rename_i he;rw[if_neg he] at h;rw[uF h]
theorem Ha {T:List (Nat × List SV)} {c1 c2:bG} {u:Option Nat} {n0:Nat} {Q:iY} {st:List It} {fr:Fr} {m:bL} {n:Nat} {l:List Opr} {d:Option Nat} {op:SOp} {g:Nat} {t:Bool} {ks p h:List Nat} :
  iN T c1 c2 u n0 Q (.o (⟨d,op,some (g,t),ks,p,h⟩ :: l) :: st) .normal fr m n =
  (match Sx.get fr g with
   | .bool t'=>gd t' t (iS T c1 (yP fr g (.bool t)) m n (UO T c1 c2 u n0 Q l st (yP fr g (.bool t)) d ks) op)
     (iN T c1 c2 u n0 Q (.o l :: st) .normal (aU (bQ (yP fr g (.bool (!t))) d (.val undef)) ks) m n)
   | .val (.tuple _)=>iN T c1 c2 u n0 Q (.o l :: st) .normal (aU (bQ fr d (.val undef)) ks) m n
   | _=>False):=by
 rw[UP]
 generalize hg:Sx.get fr g=gv
 cases gv with
 | bool t'=>
  apply propext
  constructor
  ·rintro⟨h1,h2⟩
   refine⟨fun e=>?_,fun e=>?_⟩
   ·rw[uF (by rw[hg,e])];exact h1 e
   ·rw[uF (by rw[hg,e])];exact h2 e
  ·rintro⟨h1,h2⟩
   refine⟨fun e=>?_,fun e=>?_⟩
   ·have:=h1 e;rwa [uF (by rw[hg,e])] at this
   ·have:=h2 e;rwa [uF (by rw[hg,e])] at this
 | val v=>cases v <;> rfl
 | _=>rfl
theorem wrap64 {n:Int} (h1:-9223372036854775808≤n) (h2:n≤9223372036854775807):IntKind.i64.wrap n=n:=by
 rw[IntKind.wrap_i64];omega
def g9 {α:Type}:List (FuncId × α)→FuncId→Option α
 | [],_=>none
 | (g,x) :: r,f=>if g=f then some x else g9 r f
theorem x9 {α:Type}:∀ {L:List (FuncId × α)} {f:FuncId} {x:α},g9 L f=some x→(f,x)∈L
 | (g,y) :: r,f,x,h=>by
  unfold g9 at h
  split at h
  ·rename_i e;subst e;cases h;exact List.mem_cons_self
  ·exact List.mem_cons_of_mem _ (x9 h)
structure Tab where
 p:List (FuncId × (List SV→Option SV))
 o:List (FuncId × TypeId × (List SV→List SV→Option (SV × List SV)))
def gT (L:Tab):bG:=fun f args m n K=>
 match g9 L.p f with
 | some g=>(match g args with
  | some r=>K r m n
  | none=>False)
 | none=>match g9 L.o f with
  | some (e,g)=>(match args with
   | .ptr i 0 :: rest=>(match rd m i with
    | some ⟨.own e',cells⟩=>if e'=e then (match g rest cells with
     | some (r,cells')=>i < n∧K r ((i,⟨.own e,cells'⟩) :: rm m i) n
     | none=>False) else False
    | _=>False)
   | _=>False)
  | none=>False
theorem AJ {L:Tab} {f:FuncId} {args:List SV} {m:bL} {n:Nat} {K:Kt}:gT L f args m n K=(match g9 L.p f with
 | some g=>(match g args with
  | some r=>K r m n
  | none=>False)
 | none=>match g9 L.o f with
  | some (e,g)=>(match args with
   | .ptr i 0 :: rest=>(match rd m i with
    | some ⟨.own e',cells⟩=>if e'=e then (match g rest cells with
     | some (r,cells')=>i < n∧K r ((i,⟨.own e,cells'⟩) :: rm m i) n
     | none=>False) else False
    | _=>False)
   | _=>False)
  | none=>False):=(rfl)
def Ek (l:List SV):Prop:=∀ η,SV.renL η l=l
structure TabX (P:Program) (T:List (Nat × List SV)) (L:Tab):Prop where
 p:∀ x∈L.p,∀ args r,x.2 args=some r→Fun P T x.1 args [] 0 r [] 0∧Ek args∧Ek [r]
 o:∀ x∈L.o,∀ args cells r cells',x.2.2 args cells=some (r,cells') →
  Fun P T x.1 (.ptr 0 0 :: args) [(0,⟨.own x.2.1,cells⟩)] 1 r [(0,⟨.own x.2.1,cells'⟩)] 1∧Ek args∧Ek cells∧Ek [r]∧Ek cells'
theorem cN {P:Program} {T:List (Nat × List SV)} {L:Tab} (h:TabX P T L):∀ f a m n K,gT L f a m n K→aY P T f a m n K:=by
 intro f a m n K hk
 unfold gT at hk
 split at hk
 ·rename_i g hg
  split at hk
  ·rename_i r hr
   obtain⟨h1,h2,h3⟩:=h.p _ (x9 hg) _ _ hr
   refine⟨[],a,[],r,[],0,h1,(h2 _).symm,trivial,trivial,trivial,by simp,trivial,?_⟩
   have h4:r.ren (bB [] n)=r:=by have:=h3 (bB [] n);simpa [SV.renL] using this
   rw[h4];exact hk
  ·exact hk.elim
 ·split at hk
  ·rename_i e g hg
   split at hk
   ·rename_i i rest
    split at hk
    ·rename_i e' cells hB
     split at hk
     ·rename_i he
      subst he
      split at hk
      ·rename_i r cells' hr
       obtain⟨h1,h2,h3,h4,h5⟩:=h.o _ (x9 hg) _ _ _ _ hr
       have e0:bB [(i,0)] n 0=(i,0):=rfl
       have e1:SV.ren (bB [(i,0)] n) (.ptr 0 0)=.ptr i 0:=by simp[SV.ren,e0]
       have e2:r.ren (bB [(i,0)] n)=r:=by have:=h4 (bB [(i,0)] n);simpa [SV.renL] using this
       refine⟨[(i,0)],.ptr 0 0 :: rest,[(0,⟨.own e',cells⟩)],r,[(0,⟨.own e',cells'⟩)],1,h1,?_,?_,?_,?_,?_,?_,?_⟩
       ·simp only[SV.renL,e1,h2 _]
       ·refine⟨⟨_,by rw[e0];exact hB,?_⟩,trivial⟩
        exact⟨by rw[e0],rfl,(h3 _).symm⟩
       ·exact⟨by simp,trivial⟩
       ·exact⟨by simp,trivial⟩
       ·intro x hx;simp at hx;subst hx;exact hk.1
       ·exact⟨fun _=>by rw[e0],trivial⟩
       ·rw[e2]
        have:cQ (bB [(i,0)] n) [(0,⟨.own e',cells'⟩)]++qM m (bZ (bB [(i,0)] n) [(0,⟨.own e',cells⟩)])=(i,⟨.own e',cells'⟩) :: rm m i:=by
         simp[cQ,bZ,qM,Kind.isOwn,e0,h5 _]
        rw[this]
        simpa using hk.2
      ·exact hk.elim
     ·exact hk.elim
    ·exact hk.elim
   ·exact hk.elim
  ·exact hk.elim
def Nx (T:List (Nat × List SV)) (res:List RV) (r:SV) (e:TypeId) (cells:List SV):iY:=fun x fr m n=>
 match x with
 | .exit _=>False
 | _=>dY T fr res m n fun l m _=>(match rd m 0 with|some B=>B=⟨.own e,cells⟩|none=>False)∧dX l=r
section
variable {T:List (Nat × List SV)} {res:List RV} {r:SV} {e:TypeId} {cells:List SV} {fr:Fr} {m:bL} {n j:Nat}
theorem Ny:Nx T res r e cells .ret fr m n=dY T fr res m n fun l m _=>(match rd m 0 with|some B=>B=⟨.own e,cells⟩|none=>False)∧dX l=r:=(rfl)
theorem Nz:Nx T res r e cells .normal fr m n=dY T fr res m n fun l m _=>(match rd m 0 with|some B=>B=⟨.own e,cells⟩|none=>False)∧dX l=r:=(rfl)
theorem OA:Nx T res r e cells (.exit j) fr m n=False:=(rfl)
end
theorem DC:∀ k,(b7 k).length=k
 | 0=>rfl
 | k+1=>by simp[b7,DC k]
theorem Fq {P:Program} {T:List (Nat × List SV)} (u:Option Nat) (c1:bG) (hF:∀ f a m n K,c1 f a m n K→aY P T f a m n K) {f:FuncId} {sf:SF} {args:List SV} {m0:bL} {n0:Nat} {r:SV}
  (hc:cY P f sf=true) (hlen:args.length≤sf.n) (hr:∀ η,r.ren η=r)
  (h:iN T c1 (aY P T) u n0 (Fi T sf.res r) [.c sf.body] .normal (gV 0 args) m0 n0):Fun P T f args m0 n0 r [] n0:=by
 refine wP hc hlen (Nat.le_refl _) (jN (aN P T) _ _ _ _ _ _ (i4 hF (aN P T) _ _ _ _ _ h) fun e fr m n h=>?_)
 have key:(dY T fr sf.res m n fun l _ _=>dX l=r)→sH T fr sf.res m n fun l m1 n1=>∃ hs,dS n0 m1 n1 hs [] n0∧dX l=r.ren (bB hs n1):=fun h=>
  vF (mY h) fun l m n h=>⟨b7 n0,⟨DC n0,Nat.le_refl _,by rw[List.take_of_length_le (by rw[DC];exact Nat.le_refl _)],trivial,trivial,trivial⟩,by rw[hr];exact h⟩
 cases e with
 | normal=>exact key h
 | exit j=>exact h
 | ret=>exact key h
def iB (f0:FuncId) (cT c:bG):bG:=fun f args m n K=>if f=f0 then cT f args m n K else c f args m n K
theorem MI {f0 f:FuncId} {cT c:bG} {args:List SV} {m:bL} {n:Nat} {K:Kt}:iB f0 cT c f args m n K=if f=f0 then cT f args m n K else c f args m n K:=(rfl)
theorem eZ {P:Program} {T:List (Nat × List SV)} {f0:FuncId} {c:bG} (hc:∀ f a m n K,c f a m n K→aY P T f a m n K) :
  ∀ f a m n K,iB f0 (aY P T) c f a m n K→aY P T f a m n K:=by
 intro f a m n K h
 unfold iB at h
 split at h
 ·exact h
 ·exact hc _ _ _ _ _ h
abbrev Hb (α:Type):=Option (α × List (Nat × Nat) × bL)
def j5 (f:Nat→SV→Hb SV):Nat→List SV→Hb (List SV)
 | _,[]=>some ([],[],[])
 | k,a :: l=>match f k a with
  | some (a',hs,m0)=>match j5 f (k+hs.length) l with
   | some (l',hs',m0')=>some (a' :: l',hs++hs',m0++m0')
   | none=>none
  | none=>none
def yQ (f:Nat→SV→Hb SV) (k:Nat) (cells:List SV):Hb (List SV):=
 match SV.flatL cells with
 | true=>some (cells,[],[])
 | false=>j5 f k cells
-- a value with what it refers to in blocks of their own, numbered from k on
def hH (m:bL):Nat→Nat→SV→Hb SV
 | 0,_,_=>none
 | d+1,k,.slc i o s len cap=>match rd m i with
  | some B=>if o+len * s≤B.cells.length then (match yQ (hH m d) (k+1) ((B.cells.drop o).take (len * s)) with
    | some (cs,hs,m0)=>some (.slc k 0 s len cap,(i,o) :: hs,(k,⟨.view,cs⟩) :: m0)
    | none=>none) else none
  | none=>none
 | d+1,k,.ptr i o=>match rd m i with
  | some ⟨.own e,cells⟩=>match yQ (hH m d) (k+1) cells with
   | some (cs,hs,m0)=>some (.ptr k o,(i,0) :: hs,(k,⟨.own e,cs⟩) :: m0)
   | none=>none
  | _=>none
 | d+1,k,.agg l=>match yQ (hH m d) k l with
  | some (l',hs,m0)=>some (.agg l',hs,m0)
  | none=>none
 | d+1,k,.fn f xs bs=>match yQ (hH m d) k xs with
  | some (xs',hs,m0)=>match yQ (hH m d) (k+hs.length) bs with
   | some (bs',hs',m0')=>some (.fn f xs' bs',hs++hs',m0++m0')
   | none=>none
  | none=>none
 | _+1,_,.int kd n=>some (.int kd n,[],[])
 | _+1,_,.bool b=>some (.bool b,[],[])
 | _+1,_,.str s=>some (.str s,[],[])
 | _+1,_,.val v=>some (.val v,[],[])
 | _+1,_,.gp g o=>some (.gp g o,[],[])
 | _+1,_,_=>none
structure CanOk (m:bL) (k n:Nat) (hs:List (Nat × Nat)) (m0:bL) (all:List (Nat × Nat)):Prop where
 len:m0.length=hs.length
 com:aK (bB all n) m m0
 key:∀ (j:Nat) x,m0[j]?=some x→x.1=k+j
def At (all hs:List (Nat × Nat)) (k:Nat):Prop:=∀ j,j < hs.length→all[k+j]?=hs[j]?
theorem At.left {all a b:List (Nat × Nat)} {k:Nat} (h:At all (a++b) k):At all a k:=fun j hj=>by
 rw[h j (by simp;omega),List.getElem?_append_left hj]
theorem At.right {all a b:List (Nat × Nat)} {k:Nat} (h:At all (a++b) k):At all b (k+a.length):=fun j hj=>by
 have:=h (a.length+j) (by simp;omega)
 rw[List.getElem?_append_right (by omega),Nat.add_sub_cancel_left] at this
 rw[← this,Nat.add_assoc]
theorem DD {η:Nat→Nat × Nat} {m:bL}:∀ {a b:bL},aK η m a→aK η m b→aK η m (a++b)
 | [],b,_,h=>h
 | x :: a,b,h,h'=>by
  obtain⟨i,B⟩:=x
  simp only[List.cons_append,aK] at h ⊢
  exact⟨h.1,DD h.2 h'⟩
theorem CanOk.app {m:bL} {k n:Nat} {hs hs':List (Nat × Nat)} {m0 m0':bL} {all:List (Nat × Nat)} (h:CanOk m k n hs m0 all) (h':CanOk m (k+hs.length) n hs' m0' all) :
  CanOk m k n (hs++hs') (m0++m0') all where
 len:=by simp[h.len,h'.len]
 com:=DD h.com h'.com
 key:=fun j x hx=>by
  by_cases hj:j < m0.length
  ·rw[List.getElem?_append_left hj] at hx;exact h.key j x hx
  ·rw[List.getElem?_append_right (by omega)] at hx
   have:=h'.key _ x hx
   have:=h.len
   omega
theorem CanOk.nil {m:bL} {k n:Nat} {all:List (Nat × Nat)}:CanOk m k n [] [] all:=⟨rfl,trivial,by simp⟩
def UQ (m:bL) (n:Nat) (f:Nat→SV→Hb SV):Prop:=∀ k a a' hs m0,f k a=some (a',hs,m0)→∀ all,At all hs k→a'.ren (bB all n)=a∧CanOk m k n hs m0 all
theorem DE {m:bL} {n:Nat} {f:Nat→SV→Hb SV} (hf:UQ m n f):∀ {l:List SV} {k:Nat} {l':List SV} {hs:List (Nat × Nat)} {m0:bL},j5 f k l=some (l',hs,m0) →
  ∀ all,At all hs k→SV.renL (bB all n) l'=l∧CanOk m k n hs m0 all
 | [],k,l',hs,m0,h,all,ha=>by simp only[j5] at h;cases h;exact⟨by simp only[SV.renL],.nil⟩
 | a :: l,k,l',hs,m0,h,all,ha=>by
  simp only[j5] at h
  split at h
  ·rename_i a1 hs1 m1 h1
   split at h
   ·rename_i l2 hs2 m2 h2
    cases h
    obtain⟨e1,k1⟩:=hf _ _ _ _ _ h1 all ha.left
    obtain⟨e2,k2⟩:=DE hf h2 all ha.right
    exact⟨by simp only[SV.renL,e1,e2],k1.app k2⟩
   ·cases h
  ·cases h
theorem AK {m:bL} {n:Nat} {f:Nat→SV→Hb SV} (hf:UQ m n f) {l:List SV} {k:Nat} {l':List SV} {hs:List (Nat × Nat)} {m0:bL} (h:yQ f k l=some (l',hs,m0)) :
  ∀ all,At all hs k→SV.renL (bB all n) l'=l∧CanOk m k n hs m0 all:=by
 intro all ha
 unfold yQ at h
 split at h
 ·rename_i hfl
  cases h
  exact⟨SV.flatL_ren _ _ hfl,.nil⟩
 ·exact DE hf h all ha
theorem Ja {all hs:List (Nat × Nat)} {k n:Nat} {h:Nat × Nat} (ha:At all (h :: hs) k):bB all n k=h:=by
 have h0:=ha 0 (by simp)
 simp only[Nat.add_zero,List.getElem?_cons_zero] at h0
 unfold bB;rw[h0];rfl
theorem At.tail {all hs:List (Nat × Nat)} {k:Nat} {h:Nat × Nat} (ha:At all (h :: hs) k):At all hs (k+1):=fun j hj=>by
 have:=ha (j+1) (by simp;omega)
 rw[List.getElem?_cons_succ] at this
 rw[← this,show k+1+j=k+(j+1) by omega]
theorem CanOk.cons {m:bL} {k n:Nat} {hs:List (Nat × Nat)} {m0:bL} {all:List (Nat × Nat)} {h:Nat × Nat} {B:Blk} (hc:CanOk m (k+1) n hs m0 all)
  (hB:∃ D,rd m (bB all n k).1=some D ∧
   match B.kind with
   | .view=>(bB all n k).2+B.cells.length≤D.cells.length∧SV.renL (bB all n) B.cells=(D.cells.drop (bB all n k).2).take B.cells.length
   | _=>(bB all n k).2=0∧D.kind=B.kind∧D.cells=SV.renL (bB all n) B.cells):CanOk m k n (h :: hs) ((k,B) :: m0) all where
 len:=by simp[hc.len]
 com:=⟨hB,hc.com⟩
 key:=fun j x hx=>by
  cases j with
  | zero=>simp at hx;rw[← hx];rfl
  | succ j=>have:=hc.key j x (by simpa using hx);omega
theorem KX {m:bL} {n:Nat}:∀ d,UQ m n (hH m d)
 | 0=>fun k a a' hs m0 h=>by simp[hH] at h
 | d+1=>fun k a a' hs m0 h all ha=>by
  have ih:=KX (m:=m) (n:=n) d
  cases a with
  | slc i o s len cap=>
   simp only[hH] at h
   split at h
   ·rename_i B hB
    split at h
    ·rename_i hle
     split at h
     ·rename_i cs hs1 m1 hc
      cases h
      obtain⟨e1,k1⟩:=AK ih hc all ha.tail
      have he:bB all n k=(i,o):=Ja ha
      have hl:cs.length=len * s:=by
       have:=congrArg List.length e1
       rw[SV.renL_eq] at this
       simp at this;omega
      refine⟨by simp only[SV.ren,he,Nat.add_zero],k1.cons ⟨B,by rw[he];exact hB,?_⟩⟩
      rw[he]
      exact⟨by rw[hl];exact hle,by rw[hl];exact e1⟩
     ·cases h
    ·cases h
   ·cases h
  | ptr i o=>
   simp only[hH] at h
   split at h
   ·rename_i e cells hB
    split at h
    ·rename_i cs hs1 m1 hc
     cases h
     obtain⟨e1,k1⟩:=AK ih hc all ha.tail
     have he:bB all n k=(i,0):=Ja ha
     refine⟨by simp only[SV.ren,he,Nat.zero_add],k1.cons ⟨_,by rw[he];exact hB,?_⟩⟩
     rw[he]
     exact⟨rfl,rfl,e1.symm⟩
    ·cases h
   ·cases h
  | agg l=>
   simp only[hH] at h
   split at h
   ·rename_i l' hs1 m1 hc
    cases h
    obtain⟨e1,k1⟩:=AK ih hc all ha
    exact⟨by simp only[SV.ren,e1],k1⟩
   ·cases h
  | fn f xs bs=>
   simp only[hH] at h
   split at h
   ·rename_i l' hs1 m1 hc
    split at h
    ·rename_i l2 hs2 m2 hc2
     cases h
     obtain⟨e1,k1⟩:=AK ih hc all ha.left
     obtain⟨e2,k2⟩:=AK ih hc2 all ha.right
     exact⟨by simp only[SV.ren,e1,e2],k1.app k2⟩
    ·cases h
   ·cases h
  | int kd x=>simp only[hH] at h;cases h;exact⟨by simp only[SV.ren],.nil⟩
  | bool x=>simp only[hH] at h;cases h;exact⟨by simp only[SV.ren],.nil⟩
  | str x=>simp only[hH] at h;cases h;exact⟨by simp only[SV.ren],.nil⟩
  | val x=>simp only[hH] at h;cases h;exact⟨by simp only[SV.ren],.nil⟩
  | gp g o=>simp only[hH] at h;cases h;exact⟨by simp only[SV.ren],.nil⟩
  | any=>simp only[hH] at h;cases h
  | tup l=>simp only[hH] at h;cases h
  | mp i=>simp only[hH] at h;cases h
def yR (t:Nat) (o:Bool):List (Nat × Nat)→bL→Prop
 | h :: hs,(_,B) :: r=>((o || B.kind.isOwn)=true→t≠h.1)∧yR t o hs r
 | _,_=>True
def CF:List (Nat × Nat)→bL→Prop
 | h :: hs,(_,B) :: r=>yR h.1 B.kind.isOwn hs r∧CF hs r
 | _,_=>True
theorem Hc {t:Nat} {o:Bool}:∀ {hs:List (Nat × Nat)} {m:bL},yR t o hs m→∀ (j:Nat) h x,hs[j]?=some h→m[j]?=some x→(o || x.2.kind.isOwn)=true→t≠h.1
 | h :: hs,(i,B) :: r,ha,j,h',x,h1,h2,ho=>by
  simp only[yR] at ha
  cases j with
  | zero=>simp at h1 h2;subst h1;subst h2;exact ha.1 ho
  | succ j=>exact Hc ha.2 j h' x (by simpa using h1) (by simpa using h2) ho
 | [],_,_,j,h',x,h1,_,_=>by simp at h1
 | _ :: _,[],_,j,h',x,_,h2,_=>by simp at h2
theorem El {all:List (Nat × Nat)} {n:Nat}:∀ {hs:List (Nat × Nat)} {m:bL} {k:Nat},At all hs k→m.length=hs.length→(∀ (j:Nat) x,m[j]?=some x→x.1=k+j)→CF hs m→aM (bB all n) m
 | _,[],_,_,_,_,_=>trivial
 | [],_ :: _,_,_,h,_,_=>by simp at h
 | h :: hs,(i,B) :: r,k,ha,hl,hk,hap=>by
  simp only[CF] at hap
  have hi:i=k:=by have:=hk 0 _ rfl;simpa using this
  subst hi
  refine⟨fun x hx ho=>?_,El ha.tail (by simpa using hl) (fun j x hx=>by have:=hk (j+1) x (by simpa using hx);omega) hap.2⟩
  obtain⟨j,hj,hxj⟩:=List.mem_iff_getElem.1 hx
  have hxj':r[j]?=some x:=by rw[List.getElem?_eq_getElem hj,hxj]
  have hjh:j < hs.length:=by simp at hl;omega
  have hxk:x.1=i+1+j:=by have:=hk (j+1) x (by simpa using hxj');omega
  rw[Ja ha,hxk]
  have:all[i+1+j]?=hs[j]?:=ha.tail j hjh
  unfold bB
  rw[this,List.getElem?_eq_getElem hjh]
  exact Hc hap.1 j hs[j] x (List.getElem?_eq_getElem hjh) hxj' ho
theorem AL {k:Nat}:∀ {m0:bL},(∀ i B,(i,B)∈m0→i < k)→aG k m0
 | [],_=>trivial
 | (i,B) :: r,h=>by
  simp only[aG]
  exact⟨h i B List.mem_cons_self,AL fun j B' hj=>h j B' (List.mem_cons_of_mem _ hj)⟩
theorem Em {η:Nat→Nat × Nat}:∀ {m1:bL},(∀ i B,(i,B)∈m1→B.own→(η i).2=0)→fX η m1
 | [],_=>trivial
 | (i,B) :: r,h=>by
  simp only[fX]
  exact⟨fun ho=>h i B List.mem_cons_self (E6 ho),Em fun j B' hj=>h j B' (List.mem_cons_of_mem _ hj)⟩
abbrev GS:=List SV→bL→Option (SV × bL × Nat)
def dA (k:Nat) (m0:bL):bL→Prop
 | []=>True
 | (i,B) :: r=>(k≤i∨∃ B',(i,B')∈m0∧B'.own)∧dA k m0 r
theorem DF {k:Nat} {m0:bL}:∀ {m1:bL},dA k m0 m1→∀ i B,(i,B)∈m1→k≤i∨∃ B',(i,B')∈m0∧B'.own
 | (j,D) :: r,h,i,B,hi=>by
  simp only[dA] at h
  rcases List.mem_cons.1 hi with e|e
  ·cases e;exact h.1
  ·exact DF h.2 i B e
def dQ (P:Program) (T:List (Nat × List SV)) (f:FuncId) (g:GS):Prop:=
 ∀ a0 m0 r m1 n1,g a0 m0=some (r,m1,n1)→Fun P T f a0 m0 m0.length r m1 n1∧dA m0.length m0 m1
def dT (n:Nat):List (Nat × Nat)→Prop
 | []=>True
 | h :: r=>h.1 < n∧dT n r
theorem zF {n:Nat}:∀ {hs:List (Nat × Nat)},dT n hs→∀ h∈hs,h.1 < n
 | x :: r,hb,h,hm=>by
  simp only[dT] at hb
  rcases List.mem_cons.1 hm with e|e
  ·rw[e];exact hb.1
  ·exact zF hb.2 h e
def dR (S:List (FuncId × GS)) (c:bG):bG:=fun f args m n K=>
 match g9 S f with
 | some g=>(match j5 (hH m 4) 0 args with
  | some (a0,hs,m0)=>dT n hs∧CF hs m0∧(match g a0 m0 with
   | some (r0,m1,n1)=>K (r0.ren (bB hs n)) (cQ (bB hs n) m1++qM m (bZ (bB hs n) m0)) (n+(n1 - hs.length))
   | none=>False)
  | none=>False)
 | none=>c f args m n K
theorem sL {S:List (FuncId × GS)} {c:bG} {f:FuncId} {args:List SV} {m:bL} {n:Nat} {K:Kt}:dR S c f args m n K=(match g9 S f with
 | some g=>(match j5 (hH m 4) 0 args with
  | some (a0,hs,m0)=>dT n hs∧CF hs m0∧(match g a0 m0 with
   | some (r0,m1,n1)=>K (r0.ren (bB hs n)) (cQ (bB hs n) m1++qM m (bZ (bB hs n) m0)) (n+(n1 - hs.length))
   | none=>False)
  | none=>False)
 | none=>c f args m n K):=(rfl)
theorem MJ {P:Program} {T:List (Nat × List SV)} {f:FuncId} {g:GS} (hg:dQ P T f g) {args:List SV} {m:bL} {n:Nat} {K:Kt} {a0:List SV} {hs:List (Nat × Nat)} {m0:bL} {r0:SV} {m1:bL} {n1:Nat}
  (hcan:j5 (hH m 4) 0 args=some (a0,hs,m0)) (hb:dT n hs) (hap:CF hs m0) (hr:g a0 m0=some (r0,m1,n1))
  (hK:K (r0.ren (bB hs n)) (cQ (bB hs n) m1++qM m (bZ (bB hs n) m0)) (n+(n1 - hs.length))):aY P T f args m n K:=by
 obtain⟨F,hnew⟩:=hg _ _ _ _ _ hr
 have hat:At hs hs 0:=fun j hj=>by rw[Nat.zero_add]
 obtain⟨e1,k1⟩:=DE (KX (m:=m) (n:=n) 4) hcan hs hat
 rw[k1.len] at F hnew
 refine⟨hs,a0,m0,r0,m1,n1,F,e1.symm,k1.com,El hat k1.len k1.key hap,AL fun i B hi=>?_,zF hb,Em fun i B hi ho=>?_,hK⟩
 ·obtain⟨j,hj,hxj⟩:=List.mem_iff_getElem.1 hi
  have:=k1.key j _ (by rw[List.getElem?_eq_getElem hj,hxj])
  have:=k1.len
  simp only at *
  omega
 ·rcases DF hnew i B hi with h|⟨B',h,ho'⟩
  ·rw[JS h]
  ·exact (zC k1.com h ho').choose_spec.2.1
theorem bA {P:Program} {T:List (Nat × List SV)} {S:List (FuncId × GS)} {c:bG} (hS:∀ x∈S,dQ P T x.1 x.2) (hc:∀ f a m n K,c f a m n K→aY P T f a m n K) :
  ∀ f a m n K,dR S c f a m n K→aY P T f a m n K:=by
 intro f args m n K h
 unfold dR at h
 split at h
 ·rename_i g hg
  split at h
  ·rename_i a0 hs m0 hcan
   obtain⟨hb,hap,h⟩:=h
   split at h
   ·rename_i r0 m1 n1 hr
    exact MJ (hS _ (x9 hg)) hcan hb hap hr h
   ·exact h.elim
  ·exact h.elim
 ·exact hc _ _ _ _ _ h
def Jb (T:List (Nat × List SV)) (n0:Nat) (res:List RV) (r:SV) (m':bL) (n':Nat):iY:=fun e fr m n=>
 match e with
 | .exit _=>False
 | _=>dY T fr res m n fun l m1 n1=>∃ hs,dS n0 m1 n1 hs m' n'∧dX l=r.ren (bB hs n1)
section
variable {T:List (Nat × List SV)} {n0:Nat} {res:List RV} {r:SV} {m':bL} {n':Nat} {fr:Fr} {m:bL} {n j:Nat}
theorem vH:Jb T n0 res r m' n' .ret fr m n=dY T fr res m n fun l m1 n1=>∃ hs,dS n0 m1 n1 hs m' n'∧dX l=r.ren (bB hs n1):=(rfl)
theorem OB:Jb T n0 res r m' n' .normal fr m n=dY T fr res m n fun l m1 n1=>∃ hs,dS n0 m1 n1 hs m' n'∧dX l=r.ren (bB hs n1):=(rfl)
theorem OC:Jb T n0 res r m' n' (.exit j) fr m n=False:=(rfl)
end
theorem KY {P:Program} {T:List (Nat × List SV)} (u:Option Nat) (c1:bG) (hF:∀ f a m n K,c1 f a m n K→aY P T f a m n K) {f:FuncId} {sf:SF} {args:List SV} {m0:bL} {n0:Nat} {r:SV} {m':bL} {n':Nat}
  (hc:cY P f sf=true) (hlen:args.length≤sf.n) (hn:n0≤n')
  (h:iN T c1 (aY P T) u n0 (Jb T n0 sf.res r m' n') [.c sf.body] .normal (gV 0 args) m0 n0):Fun P T f args m0 n0 r m' n':=by
 refine wP hc hlen hn (jN (aN P T) _ _ _ _ _ _ (i4 hF (aN P T) _ _ _ _ _ h) fun e fr m n h=>?_)
 cases e with
 | normal=>exact mY h
 | exit j=>exact h
 | ret=>exact mY h
def aB (l:List UInt8):List SV:=l.map SV.byte
theorem AM (l:List UInt8):List.map SV.byte l=aB l:=(rfl)
theorem aX:∀ b:List UInt8,SV.flatL (aB b)=true
 | []=>rfl
 | n :: b=>by simp only[aB,List.map_cons,SV.flatL,SV.byte,SV.flat,Bool.true_and];exact aX b
theorem aC (η:Nat→Nat × Nat) (b:List UInt8):SV.renL η (aB b)=aB b:=SV.flatL_ren η _ (aX b)
theorem aA (b:List UInt8):(aB b).length=b.length:=by simp[aB]
def rQ (l:List SV):Option (List UInt8):=match l.all mH with
 | true=>some (l.map Sx.byteOf)
 | false=>none
theorem B7 (c:UInt8):mH (SV.byte c)=true:=by
 simp only[mH,SV.byte,decide_eq_true_eq]
 have:=c.toNat_lt
 omega
theorem Jc (c:UInt8):(SV.byte c).cells?=some [SV.byte c]:=(rfl)
theorem o4 (c:UInt8):[SV.byte c]=aB [c]:=(rfl)
theorem DG (η:Nat→Nat × Nat) (c:UInt8):(SV.byte c).ren η=SV.byte c:=(rfl)
theorem a9 (b:List UInt8):List.take b.length (aB b)=aB b:=List.take_of_length_le (by simp[aB])
theorem cE (a b:List UInt8):aB a++aB b=aB (a++b):=by simp[aB]
theorem iT (a:List UInt8) (c:UInt8):aB a++[SV.byte c]=aB (a++[c]):=by simp[aB]
theorem Hd (c:UInt8):Sx.byteOf (SV.byte c)=c:=by simp[Sx.byteOf,SV.byte]
theorem MK (c:UInt8):Gv (SV.byte c)=true:=rfl
theorem dD (b:List UInt8):(aB b).all Gv=true:=by
 simp[aB,List.all_eq_true,MK]
theorem bR (b:List UInt8):(aB b).map Sx.byteOf=b:=by
 simp only[aB,List.map_map]
 rw[show (Sx.byteOf ∘ SV.byte)=id from funext Hd,List.map_id]
theorem aT (b:List UInt8):rQ (aB b)=some b:=by
 have:(aB b).all mH=true:=by simp[aB,List.all_eq_true,B7]
 unfold rQ
 rw[this,bR]
theorem KZ {v:SV} (h:mH v=true):SV.byte (Sx.byteOf v)=v:=by
 cases v <;> simp only[mH] at h <;> first|cases h|skip
 rename_i k n
 cases k <;> simp only at h <;> first|cases h|skip
 simp only[decide_eq_true_eq] at h
 simp only[SV.byte,Sx.byteOf]
 congr 1
 have:n.toNat < 256:=by omega
 simp only[UInt8.toNat_ofNat']
 omega
theorem b8 {l:List SV} {b:List UInt8} (h:rQ l=some b):l=aB b:=by
 unfold rQ at h
 split at h
 ·rename_i ha
  cases h
  simp only[aB,List.map_map]
  rw[List.all_eq_true] at ha
  exact (List.map_id l).symm.trans (List.map_congr_left fun v hv=>(KZ (ha v hv)).symm)
 ·cases h
theorem oE (x:Int):0≤IntKind.u8.wrap x∧IntKind.u8.wrap x < 256:=by
 simp only[IntKind.wrap,IntKind.bits,IntKind.signed]
 simp
 omega
theorem sM {x:Int} (h:0≤x∧x < 256):SV.int .u8 x=SV.byte (UInt8.ofNat x.toNat):=by
 have:=KZ (v:=.int .u8 x) (by simp only[mH];exact decide_eq_true h)
 exact this.symm
def y0 (x f:Int):UInt8:=UInt8.ofNat (dL .xor .u8 x f).toNat
theorem He (x f:Int):SV.int .u8 (dL .xor .u8 x f)=SV.byte (y0 x f):=sM (oE _)
def kF (x:Int):UInt8:=UInt8.ofNat (IntKind.u8.wrap x).toNat
theorem nL (x:Int):SV.int .u8 (IntKind.u8.wrap x)=SV.byte (kF x):=sM (oE _)
theorem aD {x:Int} (h1:-9223372036854775808≤x) (h2:x≤9223372036854775807):IntKind.i64.wrap x=x:=wrap64 h1 h2
def cF:bG:=fun _ _ _ _ _=>False
theorem bI {P:Program} {T:List (Nat × List SV)}:∀ f a m n K,cF f a m n K→aY P T f a m n K:=fun _ _ _ _ _ h=>h.elim
def d9 (l:List Int):List SV:=l.map (.int .i64)
theorem uG:∀ b:List Int,SV.flatL (d9 b)=true
 | []=>rfl
 | n :: b=>by simp only[d9,List.map_cons,SV.flatL,SV.flat,Bool.true_and];exact uG b
theorem kG (η:Nat→Nat × Nat) (b:List Int):SV.renL η (d9 b)=d9 b:=SV.flatL_ren η _ (uG b)
theorem gC (b:List Int):(d9 b).length=b.length:=by simp[d9]
theorem qD (b:List Int):List.take b.length (d9 b)=d9 b:=List.take_of_length_le (by simp[d9])
theorem uH {b:List Int} {i:Nat} {x:Int} (h:b[i]?=some x):(d9 b)[i]?=some (.int .i64 x):=by simp[d9,h]
theorem Fs {b:List UInt8} {i:Nat} {x:UInt8} (h:b[i]?=some x):(aB b)[i]?=some (SV.byte x):=by simp[aB,h]
theorem fL {b:List UInt8} {i:Nat} {x:UInt8} (h:b[i]?=some x):(aB b)[i]?=some (.int .u8 (x.toNat:Int)):=Fs h
theorem qS (x:UInt8):SV.int .u8 (x.toNat:Int)=SV.byte x:=(rfl)
theorem EN {b:List UInt8} {i:Nat} {x:UInt8} (hi:i≠0) (h:b[i - 1]?=some x):(b.take i).reverse=x :: (b.take (i - 1)).reverse:=by
 obtain⟨j,rfl⟩:∃ j,i=j+1:=⟨i - 1,by omega⟩
 simp only[Nat.add_sub_cancel] at h ⊢
 rw[List.take_add_one,h]
 simp
def o5 (cap:Option Nat) (len:Nat):Prop:=∀ c,cap=some c→len≤c
def jO:Option Nat→Nat→Bool
 | none,_=>true
 | some c,n=>Nat.ble n c
theorem nM {cap:Option Nat} {n:Nat} (h:jO cap n=true):o5 cap n:=by
 intro c hc
 subst hc
 exact Nat.le_of_ble_eq_true h
def AN (i s:Nat):Nat→SV
 | 0=>.val (.slice none 0 0)
 | k+1=>.slc i 0 s (k+1) none
def v7 (i:Nat) (e:TypeId) (cells:List SV) (m:bL):Nat→bL
 | 0=>m
 | _+1=>(i,⟨.own e,cells⟩) :: m
def s9 (i:Nat):Nat→Nat
 | 0=>i
 | _+1=>i+1
section
variable {i s k:Nat} {e:TypeId} {cells:List SV} {m:bL}
theorem mZ:AN i s 0=.val (.slice none 0 0):=(rfl)
theorem lG:AN i s (k+1)=.slc i 0 s (k+1) none:=(rfl)
theorem m5:v7 i e cells m 0=m:=(rfl)
theorem lH:v7 i e cells m (k+1)=(i,⟨.own e,cells⟩) :: m:=(rfl)
theorem m6:s9 i 0=i:=(rfl)
theorem kI:s9 i (k+1)=i+1:=(rfl)
end
theorem Ax (c:UInt8) (l:List UInt8):List.take (l.length+1) (aB (c :: l))=aB (c :: l):=a9 (c :: l)
theorem aH (n:Nat) (h:n < 2 ^ 8):(⟨⟨⟨n,h⟩⟩⟩:UInt8)=UInt8.ofNat n:=by
 apply UInt8.toNat_inj.1
 simp only[UInt8.toNat_ofNat']
 exact (Nat.mod_eq_of_lt h).symm
-- the rules of old, zG a text that stands once
def ZI (T:List (Nat × List SV)) (c1 c2:bG) (u:Option Nat) (n0:Nat) (RZ:List RV→iY) (s:SF) (fr:Fr) (m:bL) (n:Nat):Prop:=iN T c1 c2 u n0 (RZ s.res) [.c s.body] .normal fr m n
section
variable {P:Program} {T:List (Nat × List SV)} {c2:bG} {f:FuncId} {sf:SF} {args:List SV} {m0 m:bL} {n0 n:Nat} {r:SV} {m':bL} {n' k:Nat} {res:List RV} {body:SC} {e:TypeId} {cells cells':List SV} {RZ:List RV→iY} {fr:Fr}
theorem aQ {u:Option Nat} {c1:bG}:ZI T c1 c2 u n0 RZ ⟨k,res,body⟩ fr m n=iN T c1 c2 u n0 (RZ res) [.c body] .normal fr m n:=(rfl)
theorem bT (u:Option Nat) (c1:bG) (hF:∀ f a m n K,c1 f a m n K→aY P T f a m n K) (hc:cY P f sf=true) (hlen:args.length≤sf.n) (hr:∀ η,r.ren η=r)
 (h:ZI T c1 (aY P T) u 0 (fun res=>Fi T res r) sf (gV 0 args) [] 0):Fun P T f args [] 0 r [] 0:=Ng u c1 hF hc hlen hr h
theorem nN (u:Option Nat) (c1:bG) (hF:∀ f a m n K,c1 f a m n K→aY P T f a m n K) (hc:cY P f sf=true) (hlen:args.length≤sf.n) (hr:∀ η,r.ren η=r)
 (h:ZI T c1 (aY P T) u n0 (fun res=>Fi T res r) sf (gV 0 args) m0 n0):Fun P T f args m0 n0 r [] n0:=Fq u c1 hF hc hlen hr h
theorem aR (u:Option Nat) (c1:bG) (hF:∀ f a m n K,c1 f a m n K→aY P T f a m n K) (hc:cY P f sf=true) (hlen:args.length≤sf.n) (hn:n0≤n')
 (h:ZI T c1 (aY P T) u n0 (fun res=>Jb T n0 res r m' n') sf (gV 0 args) m0 n0):Fun P T f args m0 n0 r m' n':=KY u c1 hF hc hlen hn h
end
-- continuations that simp does not enter
def OD (T:List (Nat × List SV)) (call:bG) (fr0:Fr) (m0:bL) (r:List Opr) (done:List Dn) (n:Nat) (d:Option Nat) (K:List Dn→Nat→Prop):Kt:=
 fun v m' n'=>n≤n'∧oZ T call fr0 m0 r (done++[⟨d,v,dW n m',n,n'⟩]) n' K
def TP (K:Kt) (m:bL) (n:Nat):Kt:=fun v m' n'=>m'=[]∧n'=0∧v.flat=true∧K v m n
section
variable {T:List (Nat × List SV)} {call:bG} {fr0 fr:Fr} {m0 m m':bL} {r:List Opr} {done:List Dn} {n n':Nat} {d:Option Nat} {K:List Dn→Nat→Prop} {v:SV} {op:SOp} {ks p h:List Nat} {g:Nat} {b:Bool} {k:Kt}
theorem Ay:OD T call fr0 m0 r done n d K v m' n'=(n≤n'∧oZ T call fr0 m0 r (done++[⟨d,v,dW n m',n,n'⟩]) n' K):=(rfl)
theorem TQ:oZ T call fr0 m0 [] done n K=K done n:=(rfl)
theorem OE:oZ T call fr0 m0 (⟨d,op,none,ks,p,h⟩ :: r) done n K =
 iS T call (iZ (bM done p) (aU fr0 h)) (eD (fH (bM done p) m0)) n (OD T call fr0 m0 r done n d K) op:=(rfl)
theorem WS:oZ T call fr0 m0 (⟨d,op,some (g,b),ks,p,h⟩ :: r) done n K =
 (match get (iZ (bM done p) (aU fr0 h)) g with
  | .bool t=>gd t b (iS T call (iZ (bM done p) (aU fr0 h)) (eD (fH (bM done p) m0)) n (OD T call fr0 m0 r done n d K) op)
   (oZ T call fr0 m0 r (done++[⟨d,.val undef,[],n,n⟩]) n K)
  | .val (.tuple _)=>oZ T call fr0 m0 r (done++[⟨d,.val undef,[],n,n⟩]) n K
  | _=>False):=(rfl)
theorem R3 {b:Nat} {B:Blk} {f:FuncId} {args:List SV}:rZ (some (b,B)) call f args m n k=(match rd m b with
 | none=>call f args m n k
 | some _=>call f args ((b,B) :: rm m b) n (Gw b B k)):=(rfl)
theorem ML {b:Nat} {B:Blk}:Gw b B k v m n=(rd m b=some B∧k v (rm m b) n):=(rfl)
theorem OF {t:Nat} {F:Nat→Blk→Prop}:vE fr m t F=(match get fr t with
 | .ptr b 0=>match rd m b with
  | some ⟨.own e,cells⟩=>SV.flatL cells=true∧C8 b ⟨.own e,cells⟩ m∧F b ⟨.own e,cells⟩
  | _=>False
 | _=>False):=(rfl)
theorem uI:TP k m n v m' n'=(m'=[]∧n'=0∧v.flat=true∧k v m n):=(rfl)
theorem wT {f:FuncId} {args:List Opd}:iS T call fr m n k (.callp f args)=(SV.flatL (args.map (·.ev fr))=true∧call f (args.map (·.ev fr)) [] 0 (TP k m n)):=(rfl)
end
theorem En {l:List SV}:aF l 0 []=l:=by simp[aF]
theorem Eo {a x:SV} {l d:List SV}:aF (a :: l) 0 (x :: d)=x :: aF l 0 d:=by simp[aF]
theorem qE {a:SV} {l d:List SV} {n:Nat}:aF (a :: l) (n+1) d=a :: aF l n d:=by simp[aF,Nat.add_right_comm]
theorem b9 {a b:List SV} (h:b.length=a.length):aF a 0 b=b:=by
 unfold aF
 simp[h]
theorem kV {n:Nat} {b:List UInt8} (h:b.length=n):List.take n (aB b)=aB b:=List.take_of_length_le (by rw[aA];omega)
def R4 (P:Program) (f:FuncId) (fn:Func) (k:Nat):Bool:=cY P f (aJ P fn) && Nat.ble k fn.ntmps
theorem CG {P:Program} {f:FuncId} {fn:Func} {k:Nat} (h:R4 P f fn k=true):cY P f (aJ P fn)=true∧k≤(aJ P fn).n:=by
 unfold R4 at h
 simp only[Bool.and_eq_true,Nat.ble_eq] at h
 exact h
def exF (P:Program) (T:List (Nat × List SV)) (s:SF) (args:List SV) (m0:bL) (n0:Nat) (r:SV) (m':bL) (n':Nat):Prop:=
 iN T (aY P T) (aY P T) none n0 (Jb T n0 s.res r m' n') [.c s.body] .normal (gV 0 args) m0 n0
def ZT (P:Program) (T:List (Nat × List SV)) (s:SF) (args:List SV) (m0:bL) (n0:Nat) (r:SV):Prop:=
 iN T (aY P T) (aY P T) none n0 (Fi T s.res r) [.c s.body] .normal (gV 0 args) m0 n0
def exB (P:Program) (T:List (Nat × List SV)) (s:SF) (args:List SV) (r:SV) (e:TypeId) (cells cells':List SV):Prop:=
 iN T (aY P T) (aY P T) none 1 (Nx T s.res r e cells') [.c s.body] .normal (gV 0 (.ptr 0 0 :: args)) [(0,⟨.own e,cells⟩)] 1
section
variable {P:Program} {T:List (Nat × List SV)} {f:FuncId} {args:List SV} {m0:bL} {n0:Nat} {r:SV} {m':bL} {n' k:Nat} {res:List RV} {body:SC} {e:TypeId} {cells cells':List SV}
theorem UR:exF P T ⟨k,res,body⟩ args m0 n0 r m' n'=iN T (aY P T) (aY P T) none n0 (Jb T n0 res r m' n') [.c body] .normal (gV 0 args) m0 n0:=(rfl)
theorem Az:ZT P T ⟨k,res,body⟩ args m0 n0 r=iN T (aY P T) (aY P T) none n0 (Fi T res r) [.c body] .normal (gV 0 args) m0 n0:=(rfl)
theorem US:exB P T ⟨k,res,body⟩ args r e cells cells'=iN T (aY P T) (aY P T) none 1 (Nx T res r e cells') [.c body] .normal (gV 0 (.ptr 0 0 :: args)) [(0,⟨.own e,cells⟩)] 1:=(rfl)
theorem fV (fn:Func) (hc:R4 P f fn args.length=true) (hn:n0≤n') (h:exF P T (aJ P fn) args m0 n0 r m' n'):Fun P T f args m0 n0 r m' n':=
 KY none (aY P T) (fun _ _ _ _ _ h=>h) (CG hc).1 (CG hc).2 hn h
theorem dK (fn:Func) (hc:R4 P f fn args.length=true) (hr:∀ η,r.ren η=r) (h:ZT P T (aJ P fn) args m0 n0 r):Fun P T f args m0 n0 r [] n0:=
 Fq none (aY P T) (fun _ _ _ _ _ h=>h) (CG hc).1 (CG hc).2 hr h
theorem aE {m:bL} {n:Nat} {K:Kt} (F:Fun P T f args [] 0 r [] 0) (h:SV.flatL (r :: args)=true∧K r m n):aY P T f args m n K:=by
 have hf:r.flat=true∧SV.flatL args=true:=by simpa only [SV.flatL,Bool.and_eq_true] using h.1
 refine⟨[],args,[],r,[],0,F,(SV.flatL_ren _ _ hf.2).symm,trivial,trivial,trivial,by simp,trivial,?_⟩
 rw[SV.flat_ren _ _ hf.1]
 exact h.2
theorem aI {a0:List SV} {m1 m:bL} {n1 n:Nat} {K:Kt} (hs:List (Nat × Nat)) (F:Fun P T f a0 m0 k r m1 n1)
  (h:k=hs.length∧args=SV.renL (bB hs n) a0∧aK (bB hs n) m m0∧aM (bB hs n) m0∧aG k m0∧dT n hs∧fX (bB hs n) m1 ∧
   K (r.ren (bB hs n)) (cQ (bB hs n) m1++qM m (bZ (bB hs n) m0)) (n+(n1 - k))):aY P T f args m n K:=by
 obtain⟨rfl,h1,h2,h3,h4,h5,h6,h7⟩:=h
 exact⟨hs,a0,m0,r,m1,n1,F,h1,h2,h3,h4,zF h5,h6,h7⟩
end
theorem Fun.more {P:Program} {T T':List (Nat × List SV)} (hT:∀ x∈T,x∈T') {f:FuncId} {args:List SV} {m:bL} {n:Nat} {r:SV} {m1:bL} {n1:Nat} (F:Fun P T f args m n r m1 n1):Fun P T' f args m n r m1 n1:=by
 refine⟨F.fok,F.le,fun ρ w vals R X hv=>(F.run ρ w vals ?_ ?_ hv).mono ?_⟩
 ·exact⟨R.blk,R.apart,R.fresh,R.wrt,R.size,R.frame,R.keep,R.side⟩
 ·exact⟨fun g cs h=>X.tab g cs (hT _ h),fun g cs h=>X.nwr g cs (hT _ h)⟩
 ·rintro e w' ⟨x,ρ',h1,h2,h3,R'⟩
  exact⟨x,ρ',h1,h2,h3,⟨R'.blk,R'.apart,R'.fresh,R'.wrt,R'.size,R'.frame,R'.keep,R'.side⟩⟩
theorem dQ.more {P:Program} {T T':List (Nat × List SV)} (hT:∀ x∈T,x∈T') {f:FuncId} {g:GS} (F:dQ P T f g):dQ P T' f g:=fun a0 m0 r m1 n1 h=>
 ⟨((F a0 m0 r m1 n1 h).1).more hT,(F a0 m0 r m1 n1 h).2⟩
def UT (P:Program) (f:FuncId) (fn:Func) (t k:Nat):Bool:=cY P f ((aJ P fn).keep t) && Nat.ble k fn.ntmps
theorem K0 {P:Program} {f:FuncId} {fn:Func} {t k:Nat} (h:UT P f fn t k=true):cY P f ((aJ P fn).keep t)=true∧k≤((aJ P fn).keep t).n:=by
 unfold UT at h
 simp only[Bool.and_eq_true,Nat.ble_eq] at h
 exact h
section
variable {P:Program} {T:List (Nat × List SV)} {f:FuncId} {args:List SV} {m0:bL} {n0:Nat} {r:SV} {m':bL} {n':Nat}
theorem K1 (t:Nat) (fn:Func) (hc:UT P f fn t args.length=true) (hr:∀ η,r.ren η=r) (h:ZT P T ((aJ P fn).keep t) args m0 n0 r):Fun P T f args m0 n0 r [] n0:=
 Fq none (aY P T) (fun _ _ _ _ _ h=>h) (K0 hc).1 (K0 hc).2 hr h
end
end Go.Sx
