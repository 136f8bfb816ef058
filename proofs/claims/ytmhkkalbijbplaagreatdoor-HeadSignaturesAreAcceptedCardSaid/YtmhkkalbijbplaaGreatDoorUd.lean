/- The proof, part Ud: the texts EngV, EngW, EngX, EngXs, EngXb, EngNg, EngNw, EngMo, EngNk. -/
import Derived.Test.YtmhkkalbijbplaaGreatDoorUc
import Derived.Laws.BitsLemmas
set_option linter.unusedSimpArgs false
set_option linter.unusedVariables false
/- The engine, part V: the evaluator: a stack of code, its steps in the form that simp can carry out. -/
namespace Go.Sx
open Go
set_option linter.unusedSimpArgs false
set_option linter.unusedVariables false
def lookT:List (Nat × List SV)→Nat→Option (List SV)
  | [],_=>none
  | (g,cs) :: r,h=>if g=h then some cs else lookT r h
theorem lookT_mem:∀ {T:List (Nat × List SV)} {g:Nat} {cs:List SV},lookT T g=some cs→(g,cs) ∈ T
  | (g',cs') :: r,g,cs,h=>by
    unfold lookT at h
    split at h
    · rename_i e;subst e;cases h;exact List.mem_cons_self
    · exact List.mem_cons_of_mem _ (lookT_mem h)

def fillE (fr:Fr):List SV→List (Nat × Nat × Opd)→(List SV→Prop)→Prop
  | cs,[],F=>F cs
  | cs,(off,size,x) :: r,F=>match (x.ev fr).cells? with
    | some l=>l.length=size∧off+size≤cs.length∧fillE fr (splice cs off l) r F
    | none=>False
theorem fillS_of {fr:Fr}:∀ {ps:List (Nat × Nat × Opd)} {cs:List SV} {F:List SV→Prop},fillE fr cs ps F→fillS fr cs ps F
  | [],_,_,h=>h
  | (off,size,x) :: r,cs,F,h=>by
    unfold fillE at h
    unfold fillS
    split at h
    · rename_i l hl;exact ⟨l,hl,h.1,h.2.1,fillS_of h.2.2⟩
    · exact h.elim

def srcSlE (m:Mem) (s:Nat) (v:SV) (F:Nat→List SV→Prop):Prop:=
  match v with
  | .slc i o s' len _=>match rd m i with
    | some B=>s'=s∧o+len * s≤B.cells.length∧F len ((B.cells.drop o).take (len * s))
    | none=>False
  | .val (.slice none 0 0)=>F 0 []
  | .val (.slice (some _) 0 _)=>F 0 []
  | _=>False
def srcOfE (m:Mem) (s:Nat) (v:SV) (F:Nat→List SV→Prop):Prop:=
  match v with
  | .str t=>s=1∧F t.length (t.map SV.byte)
  | v=>srcSlE m s v F
theorem srcSl_of {m:Mem} {s:Nat} {v:SV} {F:Nat→List SV→Prop} (h:srcSlE m s v F):srcSl m s v F:=by
  unfold srcSlE at h
  unfold srcSl
  split at h
  · split at h
    · rename_i B hB;exact ⟨h.1,B,hB,h.2.1,h.2.2⟩
    · exact h.elim
  · exact h
  · exact h
  · exact h.elim
theorem srcOf_of {m:Mem} {s:Nat} {v:SV} {F:Nat→List SV→Prop} (h:srcOfE m s v F):srcOf m s v F:=by
  unfold srcOfE at h
  unfold srcOf
  split at h
  · exact h
  · rename_i hne
    split
    · exact (hne _ rfl).elim
    · exact srcSl_of h

def evO (T:List (Nat × List SV)) (call:CallT) (fr:Fr) (m:Mem) (n:Nat) (K:Kt):SOp→Prop
  | .box e x=>match (x.ev fr).cells? with
    | some l=>K (.ptr n 0) ((n,⟨.own e,l⟩) :: m) (n+1)
    | none=>False
  | .build z parts=>fillE fr z parts fun cs=>K (.agg cs) m n
  | .bslice e s k z parts=>fillE fr z parts fun cs=>K (.slc n 0 s k none) ((n,⟨.own e,cs⟩) :: m) (n+1)
  | .load agg x=>
    match x.ev fr with
    | .ptr i o=>match rd m i with
      | some B=>match agg with
        | none=>match B.cells[o]? with
          | some v=>K v m n
          | none=>False
        | some k=>o+k≤B.cells.length∧K (.agg ((B.cells.drop o).take k)) m n
      | none=>False
    | .gp g o=>match lookT T g with
      | some cs=>match agg with
        | none=>match cs[o]? with
          | some v=>K v m n
          | none=>False
        | some k=>o+k≤cs.length∧K (.agg ((cs.drop o).take k)) m n
      | none=>False
    | _=>False
  | .store k a x=>
    match a.ev fr with
    | .ptr i o=>match rd m i with
      | some ⟨.own e,cells⟩=>match (x.ev fr).cells? with
        | some l=>l.length=k∧o+k≤cells.length∧K .any (upd m i ⟨.own e,splice cells o l⟩) n
        | none=>False
      | _=>False
    | _=>False
  | .idxS x i s=>
    match i.ev fr with
    | .int _ ix=>match x.ev fr with
      | .slc b o s' len _=>match rd m b with
        | some B=>s'=s∧0≤ix∧ix < len∧o+ix.toNat * s < B.cells.length∧K (.ptr b (o+ix.toNat * s)) m n
        | none=>False
      | _=>False
    | _=>False
  | .idxV x i len s agg=>
    match i.ev fr with
    | .int _ ix=>match x.ev fr with
      | .agg l=>0≤ix∧ix < len∧match agg with
        | true=>K (.agg ((l.drop (ix.toNat * s)).take s)) m n
        | false=>match l[ix.toNat * s]? with
          | some v=>K v m n
          | none=>False
      | _=>False
    | _=>False
  | .idxT x i=>
    match i.ev fr with
    | .int _ ix=>match x.ev fr with
      | .str t=>0≤ix∧match t[ix.toNat]? with
        | some c=>K (SV.byte c) m n
        | none=>False
      | _=>False
    | _=>False
  | .fieldV x off agg=>
    match x.ev fr with
    | .agg l=>match agg with
      | some k=>K (.agg ((l.drop off).take k)) m n
      | none=>match l[off]? with
        | some v=>K v m n
        | none=>False
    | _=>False
  | .eqv neg pat x y=>
    match x.ev fr,y.ev fr with
    | .agg l,.agg l'=>match eqPat pat l l' with
      | some b=>K (.bool (if neg then !b else b)) m n
      | none=>False
    | _,_=>False
  | .isNil neg x=>
    match x.ev fr with
    | .val (.slice none 0 0)=>K (.bool (!neg)) m n
    | .val (.slice (some _) _ _)=>K (.bool neg) m n
    | .slc b o _ _ _=>match rd m b with
      | some B=>o < B.cells.length∧K (.bool neg) m n
      | none=>False
    | _=>False
  | .b2s x=>srcSlE m 1 (x.ev fr) fun _ l=>l.all isU8=true∧K (.str (l.map byteOf)) m n
  | .slcS s x lo hi=>
    match x.ev fr with
    | .slc b o s' len cap=>
      s'=s∧(match cap with
        | none=>(match rd m b with
          | some B=>o+len * s≤B.cells.length
          | none=>False)
        | some c=>len≤c) ∧
      onOpt fr lo 0 fun l=>onOpt fr hi len fun h=>0≤l∧l≤h∧h≤len ∧
        K (.slc b (o+l.toNat * s) s (h.toNat - l.toNat) (cap.map (· - l.toNat))) m n
    | .val (.slice none 0 0)=>onOpt fr lo 0 fun l=>onOpt fr hi 0 fun h=>l=0∧h=0∧K (.val (.slice none 0 0)) m n
    | _=>False
  | .arrAt k x=>
    match x.ev fr with
    | .slc b o _ len _=>match rd m b with
      | some B=>0 < k∧k≤len∧o < B.cells.length∧K (.ptr b o) m n
      | none=>False
    | _=>False
  | .ext x i=>
    match x.ev fr with
    | .tup l=>match l[i]? with
      | some v=>K v m n
      | none=>False
    | _=>False
  | .app e s bytes x y=>
    srcOfE m s (y.ev fr) fun k l=>
    match x.ev fr with
    | .slc i o s' len cap=>match rd m i with
      | some ⟨.own e',cells⟩=>s'=s∧o=0∧cap=none∧(len+k) * bytes≤2 ^ 40∧bytes≤2 ^ 20∧e'=e∧len * s≤cells.length ∧
        K (.slc n 0 s (len+k) none) ((n,⟨.own e,cells.take (len * s)++l⟩) :: rm m i) (n+1)
      | _=>False
    | .val (.slice none 0 0)=>k * bytes≤2 ^ 40∧bytes≤2 ^ 20∧K (.slc n 0 s k none) ((n,⟨.own e,l⟩) :: m) (n+1)
    | _=>False
  | .copy s x y=>
    srcOfE m s (y.ev fr) fun k l=>
    match x.ev fr with
    | .slc i o s' len _=>match rd m i with
      | some ⟨.own e,cells⟩=>s'=s∧o+len * s≤cells.length ∧
        K (.int .i64 (min k len:Nat)) (upd m i ⟨.own e,splice cells o (l.take (min k len * s))⟩) n
      | _=>False
    | _=>False
  | .mput a x key=>
    match x.ev fr with
    | .mp i=>match keysOf m i with
      | some (a',ks)=>match kvOf a (key.ev fr) with
        | some kv=>a'=a∧K .any (upd m i ⟨.map a (insK ks kv),[]⟩) n
        | none=>False
      | none=>False
    | _=>False
  | .mlen x=>
    match x.ev fr with
    | .mp i=>match keysOf m i with
      | some (_,ks)=>K (.int .i64 ks.length) m n
      | none=>False
    | _=>False
  | .mk8 x=>
    match x.ev fr with
    | .slc i o s len cap=>match rd m i with
      | some ⟨.own e,cells⟩=>0 < len∧0 < cells.length∧K (.slc i o s len cap) (upd m i ⟨.own e,cells⟩) n
      | _=>False
    | _=>False
  | op=>exO T call fr m n K op

theorem srcOf_mono {m:Mem} {s:Nat} {v:SV} {F G:Nat→List SV→Prop} (h:srcOf m s v F) (hF:∀ k l,F k l→G k l):srcOf m s v G:=by
  unfold srcOf at h ⊢
  split at h
  · exact ⟨h.1,hF _ _ h.2⟩
  · unfold srcSl at h ⊢
    split at h
    · obtain ⟨h1,B,h2,h3,h4⟩:=h;exact ⟨h1,B,h2,h3,hF _ _ h4⟩
    · exact hF _ _ h
    · exact hF _ _ h
    · exact h.elim

theorem exO_of_ev {T:List (Nat × List SV)} {call:CallT} {fr:Fr} {m:Mem} {n:Nat} {K:Kt} (op:SOp) (h:evO T call fr m n K op):exO T call fr m n K op:=by
  cases op with
  | box e x=>
    simp only [evO] at h;simp only [exO]
    split at h
    · rename_i l hl;exact ⟨l,hl,h⟩
    · exact h.elim
  | build z ps=>simp only [evO] at h;simp only [exO];exact fillS_of h
  | bslice e s k z ps=>simp only [evO] at h;simp only [exO];exact fillS_of h
  | load agg x=>
    simp only [evO] at h;simp only [exO]
    generalize x.ev fr=xv at h ⊢
    split at h
    · split at h
      · rename_i B hB
        refine ⟨B,hB,?_⟩
        cases agg with
        | none=>simp only at h ⊢;split at h
                · rename_i v hv;exact ⟨v,hv,h⟩
                · exact h.elim
        | some k=>exact h
      · exact h.elim
    · split at h
      · rename_i cs hcs
        refine ⟨cs,lookT_mem hcs,?_⟩
        cases agg with
        | none=>simp only at h ⊢;split at h
                · rename_i v hv;exact ⟨v,hv,h⟩
                · exact h.elim
        | some k=>exact h
      · exact h.elim
    · exact h.elim
  | store k a x=>
    simp only [evO] at h;simp only [exO]
    generalize a.ev fr=av at h ⊢
    split at h
    · split at h
      · rename_i e cells hB
        split at h
        · rename_i l hl;exact ⟨_,e,l,hB,rfl,hl,h⟩
        · exact h.elim
      · exact h.elim
    · exact h.elim
  | idxS x i s=>
    simp only [evO] at h;simp only [exO,onInt]
    generalize i.ev fr=iv at h ⊢
    generalize x.ev fr=xv at h ⊢
    split at h
    · split at h
      · split at h
        · rename_i B hB;exact ⟨h.1,h.2.1,h.2.2.1,B,hB,h.2.2.2⟩
        · exact h.elim
      · exact h.elim
    · exact h.elim
  | idxV x i len s agg=>
    simp only [evO] at h;simp only [exO,onInt]
    generalize i.ev fr=iv at h ⊢
    generalize x.ev fr=xv at h ⊢
    split at h
    · split at h
      · refine ⟨h.1,h.2.1,?_⟩
        cases agg with
        | true=>exact h.2.2
        | false=>
          have h:=h.2.2
          simp only at h ⊢;split at h
          · rename_i v hv;exact ⟨v,hv,h⟩
          · exact h.elim
      · exact h.elim
    · exact h.elim
  | idxT x i=>
    simp only [evO] at h;simp only [exO,onInt]
    generalize i.ev fr=iv at h ⊢
    generalize x.ev fr=xv at h ⊢
    split at h
    · split at h
      · refine ⟨h.1,?_⟩
        have h:=h.2
        split at h
        · rename_i c hc;exact ⟨c,hc,h⟩
        · exact h.elim
      · exact h.elim
    · exact h.elim
  | fieldV x off agg=>
    simp only [evO] at h;simp only [exO]
    generalize x.ev fr=xv at h ⊢
    split at h
    · cases agg with
      | some k=>exact h
      | none=>
        simp only at h ⊢;split at h
        · rename_i v hv;exact ⟨v,hv,h⟩
        · exact h.elim
    · exact h.elim
  | eqv neg pat x y=>
    simp only [evO] at h;simp only [exO]
    generalize x.ev fr=xv at h ⊢
    generalize y.ev fr=yv at h ⊢
    split at h
    · split at h
      · rename_i b hb;exact ⟨b,hb,h⟩
      · exact h.elim
    · exact h.elim
  | isNil neg x=>
    simp only [evO] at h;simp only [exO]
    generalize x.ev fr=xv at h ⊢
    split at h
    · exact h
    · exact h
    · split at h
      · rename_i B hB;exact ⟨⟨B,hB,h.1⟩,h.2⟩
      · exact h.elim
    · exact h.elim
  | b2s x=>simp only [evO] at h;simp only [exO];exact srcSl_of h
  | slcS s x lo hi=>
    simp only [evO] at h;simp only [exO]
    generalize x.ev fr=xv at h ⊢
    split at h
    · refine ⟨h.1,?_,h.2.2⟩
      have h:=h.2.1
      split at h
      · split at h
        · rename_i B hB;exact ⟨B,hB,h⟩
        · exact h.elim
      · exact h
    · exact h
    · exact h.elim
  | mput q x y=>
    simp only [evO] at h;simp only [exO]
    generalize x.ev fr=xv at h ⊢
    split at h
    · split at h
      · rename_i a' ks hks
        split at h
        · rename_i kv hkv
          obtain ⟨rfl,h⟩:=h
          exact ⟨ks,kv,hks,hkv,h⟩
        · exact h.elim
      · exact h.elim
    · exact h.elim
  | mlen x=>
    simp only [evO] at h;simp only [exO]
    generalize x.ev fr=xv at h ⊢
    split at h
    · split at h
      · rename_i a' ks hks;exact ⟨_,ks,hks,h⟩
      · exact h.elim
    · exact h.elim
  | mk8 x=>
    simp only [evO] at h;simp only [exO]
    generalize x.ev fr=xv at h ⊢
    split at h
    · split at h
      · rename_i e cells hB;exact ⟨h.1,_,e,hB,rfl,h.2.1,h.2.2⟩
      · exact h.elim
    · exact h.elim
  | arrAt k x=>
    simp only [evO] at h;simp only [exO]
    generalize x.ev fr=xv at h ⊢
    split at h
    · split at h
      · rename_i B hB;exact ⟨h.1,h.2.1,⟨B,hB,h.2.2.1⟩,h.2.2.2⟩
      · exact h.elim
    · exact h.elim
  | ext x i=>
    simp only [evO] at h;simp only [exO]
    generalize x.ev fr=xv at h ⊢
    split at h
    · split at h
      · rename_i v hv;exact ⟨v,hv,h⟩
      · exact h.elim
    · exact h.elim
  | app e s bytes x y=>
    simp only [evO] at h;simp only [exO]
    generalize x.ev fr=xv at h ⊢
    refine srcOf_mono (srcOf_of h) fun k l h=>?_
    split at h
    · split at h
      · rename_i e' cells hB
        obtain ⟨h1,h2,h3,h4,h5,h6,h7,h8⟩:=h
        subst h6
        exact ⟨h1,h2,h3,h4,h5,_,hB,rfl,h7,h8⟩
      · exact h.elim
    · exact h
    · exact h.elim
  | copy s x y=>
    simp only [evO] at h;simp only [exO]
    generalize x.ev fr=xv at h ⊢
    refine srcOf_mono (srcOf_of h) fun k l h=>?_
    split at h
    · split at h
      · rename_i e cells hB;exact ⟨h.1,_,e,hB,rfl,h.2.1,h.2.2⟩
      · exact h.elim
    · exact h.elim
  | _=>exact h

theorem exO_call {T:List (Nat × List SV)} {c1 c2:CallT} (hc:∀ f a m n K,c1 f a m n K→c2 f a m n K) {fr:Fr} {m:Mem} {n:Nat} {K:Kt} (op:SOp)
    (h:exO T c1 fr m n K op):exO T c2 fr m n K op:=by
  cases op with
  | call f args=>simp only [exO] at h ⊢;exact hc _ _ _ _ _ h
  | callp f args=>simp only [exO] at h ⊢;exact ⟨h.1,hc _ _ _ _ _ h.2⟩
  | callv x args=>
    simp only [exO] at h ⊢
    split at h
    · exact hc _ _ _ _ _ h
    · exact h.elim
  | _=>exact h


def evR (T:List (Nat × List SV)) (call:CallT):List Opr→Fr→Mem→Nat→(Fr→Mem→Nat→Prop)→Prop
  | [],fr,m,n,K=>K fr m n
  | o :: r,fr,m,n,K=>
    match o.guard with
    | none=>evO T call fr m n (fun v m' n'=>evR T call r (dels (putO fr o.dst v) o.kill) m' n' K) o.op
    | some (g,b)=>
      match get fr g with
      | .bool t=>(t=b→evO T call fr m n (fun v m' n'=>evR T call r (dels (putO fr o.dst v) o.kill) m' n' K) o.op) ∧
          (t=!b→evR T call r (dels (putO fr o.dst (.val undef)) o.kill) m n K)
      | .val (.tuple _)=>evR T call r (dels (putO fr o.dst (.val undef)) o.kill) m n K
      | _=>False

def evA (T:List (Nat × List SV)) (call:CallT) (fr0:Fr) (m0:Mem):List Opr→List Dn→Nat→(List Dn→Nat→Prop)→Prop
  | [],done,n,K=>K done n
  | o :: r,done,n,K=>
    match o.guard with
    | none=>evO T call (frD (pickD done o.pre) (dels fr0 o.hide)) (views (memD (pickD done o.pre) m0)) n (fun v m' n'=>n≤n'∧evA T call fr0 m0 r (done++[⟨o.dst,v,newer n m',n,n'⟩]) n' K) o.op
    | some (g,b)=>
      match get (frD (pickD done o.pre) (dels fr0 o.hide)) g with
      | .bool t=>(t=b→evO T call (frD (pickD done o.pre) (dels fr0 o.hide)) (views (memD (pickD done o.pre) m0)) n (fun v m' n'=>n≤n'∧evA T call fr0 m0 r (done++[⟨o.dst,v,newer n m',n,n'⟩]) n' K) o.op) ∧
          (t=!b→evA T call fr0 m0 r (done++[⟨o.dst,.val undef,[],n,n⟩]) n K)
      | .val (.tuple _)=>evA T call fr0 m0 r (done++[⟨o.dst,.val undef,[],n,n⟩]) n K
      | _=>False

def evW (T:List (Nat × List SV)) (call:CallT) (fr0:Fr) (m0:Mem):List Opr→List DW→Nat→(List DW→Nat→Prop)→Prop
  | [],done,n,K=>K done n
  | o :: r,done,n,K=>
    match o.op with
    | .store k a x=>o.guard=none∧match a.ev (frD (pickD (baseD done) o.pre) (dels fr0 o.hide)) with
      | .ptr b off=>match rd (memD (pickD (baseD done) o.pre) m0) b with
        | some ⟨.own e,cells⟩=>match (x.ev (frD (pickD (baseD done) o.pre) (dels fr0 o.hide))).cells? with
          | some l=>l.length=k∧off+k≤cells.length∧(stBlk done).contains b=false∧untouched b o.pre 0 done ∧
              evW T call fr0 m0 r (done++[⟨⟨o.dst,.any,[],n,n⟩,some (b,⟨.own e,splice cells off l⟩),none⟩]) n K
          | none=>False
        | _=>False
      | _=>False
    | .mput a x key=>o.guard=none∧match x.ev (frD (pickD (baseD done) o.pre) (dels fr0 o.hide)) with
      | .mp b=>match keysOf (memD (pickD (baseD done) o.pre) m0) b with
        | some (a',ks)=>match kvOf a (key.ev (frD (pickD (baseD done) o.pre) (dels fr0 o.hide))) with
          | some kv=>a'=a∧(stBlk done).contains b=false∧untouched b o.pre 0 done ∧
              evW T call fr0 m0 r (done++[⟨⟨o.dst,.any,[],n,n⟩,some (b,⟨.map a (insK ks kv),[]⟩),none⟩]) n K
          | none=>False
        | none=>False
      | _=>False
    | op=>clear (touch (frD (pickD (baseD done) o.pre) (dels fr0 o.hide)) op) (stBlk done)∧match o.guard with
      | none=>evO T call (frD (pickD (baseD done) o.pre) (dels fr0 o.hide)) (views (memD (pickD (baseD done) o.pre) m0)) n
          (fun v m' n'=>n≤n'∧evW T call fr0 m0 r (done++[⟨⟨o.dst,v,newer n m',n,n'⟩,none,touch (frD (pickD (baseD done) o.pre) (dels fr0 o.hide)) op⟩]) n' K) op
      | some (g,b)=>
        match get (frD (pickD (baseD done) o.pre) (dels fr0 o.hide)) g with
        | .bool t=>(t=b→evO T call (frD (pickD (baseD done) o.pre) (dels fr0 o.hide)) (views (memD (pickD (baseD done) o.pre) m0)) n
            (fun v m' n'=>n≤n'∧evW T call fr0 m0 r (done++[⟨⟨o.dst,v,newer n m',n,n'⟩,none,touch (frD (pickD (baseD done) o.pre) (dels fr0 o.hide)) op⟩]) n' K) op) ∧
            (t=!b→evW T call fr0 m0 r (done++[⟨⟨o.dst,.val undef,[],n,n⟩,none,some []⟩]) n K)
        | .val (.tuple _)=>evW T call fr0 m0 r (done++[⟨⟨o.dst,.val undef,[],n,n⟩,none,some []⟩]) n K
        | _=>False

def loopU (body:Fr→Mem→Nat→Post→Prop) (Q:Post):Nat→Fr→Mem→Nat→Prop
  | 0,_,_,_=>False
  | k+1,fr,m,n=>body fr m n (seqQ (loopU body Q k) Q)

theorem loopN_ofU {T:List (Nat × List SV)} {c2:CallT} (hp:PointC c2) {n0:Nat} {c:SC} {body:Fr→Mem→Nat→Post→Prop} (hb:∀ fr m n Q,body fr m n Q→exC T c2 n0 c fr m n Q) {Q:Post} :
    ∀ {k:Nat} {fr:Fr} {m:Mem} {n:Nat},loopU body Q k fr m n→loopN n0 (exC T c2 n0 c) Q k fr m n
  | 0,_,_,_,h=>h.elim
  | k+1,fr,m,n,h=>by
    unfold loopU at h
    unfold loopN
    refine .inl (exC_mono hp c _ _ _ _ _ (hb _ _ _ _ h) fun e fr m n h=>?_)
    unfold seqQ at h ⊢
    cases e with
    | normal=>exact loopN_ofU hp hb h
    | exit id=>exact h
    | ret=>exact h

def evC (T:List (Nat × List SV)) (c1 c2:CallT) (u:Option Nat) (n0:Nat):SC→Fr→Mem→Nat→Post→Prop
  | .skip,fr,m,n,Q=>Q .normal fr m n
  | .reg ops,fr,m,n,Q=>evR T c1 ops fr m n fun fr' m' n'=>Q .normal fr' m' n'
  | .regD k ops,fr,m,n,Q=>evA T c1 fr m (ops.take k) [] n fun done n'=>
      evR T c1 (ops.drop k) (dels (frD done.reverse fr) (kills (ops.take k))) (memD done.reverse m) n' fun fr' m' n'=>Q .normal fr' m' n'
  | .regK t k ops,fr,m,n,Q=>onKept fr m t fun b B=>evA T (callK (some (b,B)) c1) fr m (ops.take k) [] n fun done n'=>
      evR T c1 (ops.drop k) (dels (frD done.reverse fr) (kills (ops.take k))) (memD done.reverse m) n' fun fr' m' n'=>Q .normal fr' m' n'
  | .regP _ ops,fr,m,n,Q=>evR T c1 ops fr m n fun fr' m' n'=>Q .normal fr' m' n'
  | .regW k ops,fr,m,n,Q=>evW T c1 fr m (ops.take k) [] n fun done n'=>
      evR T c1 (ops.drop k) (dels (frD (baseD done).reverse fr) (kills (ops.take k))) (updsW done (memD (baseD done).reverse m)) n' fun fr' m' n'=>Q .normal fr' m' n'
  | .bad,_,_,_,_=>False
  | .seq a b,fr,m,n,Q=>evC T c1 c2 u n0 a fr m n (seqQ (fun fr' m' n'=>evC T c1 c2 u n0 b fr' m' n' Q) Q)
  | .cond x a b,fr,m,n,Q=>onBool (x.ev fr) fun t=>(t=true→evC T c1 c2 u n0 a fr m n Q)∧(t=false→evC T c1 c2 u n0 b fr m n Q)
  | .block id c,fr,m,n,Q=>evC T c1 c2 u n0 c fr m n (blkQ id Q)
  | .loop c,fr,m,n,Q=>match u with
    | none=>∃ k,loopN n0 (exC T c2 n0 c) Q k fr m n
    | some k=>loopU (evC T c1 c2 u n0 c) Q k fr m n
  | .exit id,fr,m,n,Q=>Q (.exit id) fr m n
  | .ret,fr,m,n,Q=>Q .ret fr m n

section
variable {T:List (Nat × List SV)} {c1 c2:CallT} {u:Option Nat} (hc:∀ f a m n K,c1 f a m n K→c2 f a m n K) (hp:PointC c2) {n0:Nat}
include hc hp
theorem exR_of_ev:∀ {qs:List Opr} {fr:Fr} {m:Mem} {n:Nat} {K:Fr→Mem→Nat→Prop},evR T c1 qs fr m n K→exR T c2 qs fr m n K
  | [],fr,m,n,K,h=>h
  | q :: qs,fr,m,n,K,h=>by
    simp only [evR] at h
    simp only [exR]
    cases hg:q.guard with
    | none=>
      simp only [hg] at h ⊢
      exact exO_mono hp (exO_call hc _ (exO_of_ev _ h)) fun v m n h=>exR_of_ev h
    | some gb=>
      obtain ⟨g,b⟩:=gb
      simp only [hg] at h ⊢
      cases hv:get fr g <;> simp only [hv] at h ⊢
      case bool t=>exact ⟨fun e=>exO_mono hp (exO_call hc _ (exO_of_ev _ (h.1 e))) fun v m n h=>exR_of_ev h,fun e=>exR_of_ev (h.2 e)⟩
      case val v=>
        cases v <;> simp only at h ⊢
        exact exR_of_ev h

theorem exA_of_ev {fr:Fr} {m:Mem}:∀ {qs:List Opr} {done:List Dn} {n:Nat} {K:List Dn→Nat→Prop},evA T c1 fr m qs done n K→exA T c2 fr m qs done n K
  | [],done,n,K,h=>h
  | q :: qs,done,n,K,h=>by
    simp only [evA] at h
    simp only [exA]
    cases hg:q.guard with
    | none=>
      simp only [hg] at h ⊢
      exact exO_mono hp (exO_call hc _ (exO_of_ev _ h)) fun v m n h=>⟨h.1,exA_of_ev h.2⟩
    | some gb=>
      obtain ⟨g,b⟩:=gb
      simp only [hg] at h ⊢
      cases hv:get (frD (pickD done q.pre) (dels fr q.hide)) g <;> simp only [hv] at h ⊢
      case bool t=>exact ⟨fun e=>exO_mono hp (exO_call hc _ (exO_of_ev _ (h.1 e))) fun v m n h=>⟨h.1,exA_of_ev h.2⟩,fun e=>exA_of_ev (h.2 e)⟩
      case val v=>
        cases v <;> simp only at h ⊢
        exact exA_of_ev h

theorem exW_of_ev {fr:Fr} {m:Mem}:∀ {qs:List Opr} {done:List DW} {n:Nat} {K:List DW→Nat→Prop},evW T c1 fr m qs done n K→exW T c2 fr m qs done n K
  | [],done,n,K,h=>h
  | q :: qs,done,n,K,h=>by
    unfold evW at h
    unfold exW
    simp only
    split at h
    · rename_i k a x hop
      rw [hop];simp only
      refine ⟨h.1,?_⟩
      have h:=h.2
      split at h
      · rename_i b off hab
        simp only [hab]
        split at h
        · rename_i e cells hr
          split at h
          · rename_i l hl
            exact ⟨e,cells,l,hr,hl,h.1,h.2.1,h.2.2.1,h.2.2.2.1,exW_of_ev h.2.2.2.2⟩
          · exact h.elim
        · exact h.elim
      · exact h.elim
    · rename_i a x key hop
      rw [hop];simp only
      refine ⟨h.1,?_⟩
      have h:=h.2
      split at h
      · rename_i b hab
        simp only [hab]
        split at h
        · rename_i a' ks hks
          split at h
          · rename_i kv hkv
            obtain ⟨rfl,h1,h2,h3⟩:=h
            exact ⟨ks,kv,hks,hkv,h1,h2,exW_of_ev h3⟩
          · exact h.elim
        · exact h.elim
      · exact h.elim
    · rename_i hne hne2
      split
      · rename_i k a x hop;exact (hne _ _ _ hop).elim
      · rename_i k a x hop;exact (hne2 _ _ _ hop).elim
      refine ⟨h.1,?_⟩
      have h:=h.2
      cases hg:q.guard with
      | none=>
        simp only [hg] at h ⊢
        exact exO_mono hp (exO_call hc _ (exO_of_ev _ h)) fun v m n h=>⟨h.1,exW_of_ev h.2⟩
      | some gb=>
        obtain ⟨g,b⟩:=gb
        simp only [hg] at h ⊢
        split at h
        · rename_i t ht;simp only [ht];exact ⟨fun e=>exO_mono hp (exO_call hc _ (exO_of_ev _ (h.1 e))) fun v m n h=>⟨h.1,exW_of_ev h.2⟩,fun e=>exW_of_ev (h.2 e)⟩
        · rename_i vs ht;simp only [ht];exact exW_of_ev h
        · exact h.elim

omit hp in
theorem callK_imp (κ:Option (Nat × Blk)):∀ f a m n K,callK κ c1 f a m n K→callK κ c2 f a m n K:=by
  intro f a m n K h
  unfold callK at h ⊢
  cases κ with
  | none=>exact hc _ _ _ _ _ h
  | some x=>
    simp only at h ⊢
    split at h
    · exact hc _ _ _ _ _ h
    · exact hc _ _ _ _ _ h
theorem exC_of_ev:∀ (c:SC) (fr:Fr) (m:Mem) (n:Nat) (Q:Post),evC T c1 c2 u n0 c fr m n Q→exC T c2 n0 c fr m n Q
  | .skip,_,_,_,_,h=>h
  | .reg ops,_,_,_,_,h=>exR_of_ev hc hp h
  | .regD k ops,_,_,_,_,h=>exA_mono hp (exA_of_ev hc hp h) fun _ _ h=>exR_of_ev hc hp h
  | .regK t k ops,_,_,_,_,h=>onKept_mono h fun b B h=>exA_mono (callK_point hp) (exA_of_ev (callK_imp hc (some (b,B))) (callK_point hp) h) fun _ _ h=>exR_of_ev hc hp h
  | .regP _ ops,_,_,_,_,h=>exR_of_ev hc hp h
  | .regW k ops,_,_,_,_,h=>exW_mono hp (exW_of_ev hc hp h) fun _ _ h=>exR_of_ev hc hp h
  | .bad,_,_,_,_,h=>h
  | .seq a b,_,_,_,Q,h=>by
    simp only [evC] at h
    simp only [exC]
    refine exC_mono hp a _ _ _ _ _ (exC_of_ev a _ _ _ _ h) fun e fr m n h=>?_
    unfold seqQ at h ⊢
    cases e with
    | normal=>exact exC_of_ev b _ _ _ _ h
    | exit id=>exact h
    | ret=>exact h
  | .cond x a b,_,_,_,Q,h=>by
    simp only [evC] at h
    simp only [exC]
    exact onBool_mono h fun t h=>⟨fun e=>exC_of_ev a _ _ _ _ (h.1 e),fun e=>exC_of_ev b _ _ _ _ (h.2 e)⟩
  | .block id c,_,_,_,Q,h=>by
    simp only [evC] at h
    simp only [exC]
    exact exC_of_ev c _ _ _ _ h
  | .loop c,_,_,_,Q,h=>by
    have rec0:=exC_of_ev c
    simp only [evC] at h
    simp only [exC]
    split at h
    · exact h
    · rename_i k
      exact ⟨k,loopN_ofU hp rec0 h⟩
  | .exit id,_,_,_,_,h=>h
  | .ret,_,_,_,_,h=>h
end
inductive It where
  | o (l:List Opr)
  | c (c:SC)
  | b (id:Nat)
  | u (k:Nat) (c:SC)

def denA (T:List (Nat × List SV)) (c1:CallT) (k:Nat) (ops:List Opr) (fr:Fr) (m:Mem) (Q:Post):List Dn→Nat→Prop:=fun done n'=>
  evR T c1 (ops.drop k) (dels (frD done.reverse fr) (kills (ops.take k))) (memD done.reverse m) n' fun fr' m' n'=>Q .normal fr' m' n'

def denW (T:List (Nat × List SV)) (c1:CallT) (k:Nat) (ops:List Opr) (fr:Fr) (m:Mem) (Q:Post):List DW→Nat→Prop:=fun done n'=>
  evR T c1 (ops.drop k) (dels (frD (baseD done).reverse fr) (kills (ops.take k))) (updsW done (memD (baseD done).reverse m)) n' fun fr' m' n'=>Q .normal fr' m' n'

def den (T:List (Nat × List SV)) (c1 c2:CallT) (u:Option Nat) (n0:Nat) (Q:Post):List It→Post
  | []=>Q
  | .o l :: st=>seqQ (fun fr m n=>evR T c1 l fr m n fun fr' m' n'=>den T c1 c2 u n0 Q st .normal fr' m' n') (den T c1 c2 u n0 Q st)
  | .c c :: st=>seqQ (fun fr m n=>evC T c1 c2 u n0 c fr m n (den T c1 c2 u n0 Q st)) (den T c1 c2 u n0 Q st)
  | .b id :: st=>blkQ id (den T c1 c2 u n0 Q st)
  | .u k c :: st=>seqQ (loopU (evC T c1 c2 u n0 c) (den T c1 c2 u n0 Q st) k) (den T c1 c2 u n0 Q st)

def gd (t b:Bool) (X Y:Prop):Prop:=(t=b→X)∧(t=!b→Y)
theorem gd_tt {X Y:Prop}:gd true true X Y=X:=by simp [gd]
theorem gd_ff {X Y:Prop}:gd false false X Y=X:=by simp [gd]
theorem gd_tf {X Y:Prop}:gd true false X Y=Y:=by simp [gd]
theorem gd_ft {X Y:Prop}:gd false true X Y=Y:=by simp [gd]
theorem gd_any {t b:Bool} {X Y:Prop}:gd t b X Y=((t=b→X)∧(t=!b→Y)):=rfl

def kont (T:List (Nat × List SV)) (c1 c2:CallT) (u:Option Nat) (n0:Nat) (Q:Post) (l:List Opr) (st:List It) (fr:Fr) (d:Option Nat) (ks:List Nat):Kt:=fun v m' n'=>
  den T c1 c2 u n0 Q (.o l :: st) .normal (dels (putO fr d v) ks) m' n'

section
variable {T:List (Nat × List SV)} {c1 c2:CallT} {u:Option Nat} {n0:Nat} {Q:Post} {st:List It} {fr:Fr} {m:Mem} {n:Nat} {j k:Nat} {l:List Opr} {a b c:SC} {x:Opd} {e:SX}
theorem den_nil:den T c1 c2 u n0 Q [] e fr m n=Q e fr m n:=(rfl)
theorem den_o0:den T c1 c2 u n0 Q (.o [] :: st) .normal fr m n=den T c1 c2 u n0 Q st .normal fr m n:=(rfl)
theorem den_o1 {d:Option Nat} {op:SOp} {ks p h:List Nat}:den T c1 c2 u n0 Q (.o (⟨d,op,none,ks,p,h⟩ :: l) :: st) .normal fr m n =
    evO T c1 fr m n (kont T c1 c2 u n0 Q l st fr d ks) op:=(rfl)
theorem kont_app {d:Option Nat} {ks:List Nat} {v:SV}:kont T c1 c2 u n0 Q l st fr d ks v m n=den T c1 c2 u n0 Q (.o l :: st) .normal (dels (putO fr d v) ks) m n:=(rfl)
theorem den_o2 {d:Option Nat} {op:SOp} {g:Nat} {t:Bool} {ks p h:List Nat}:den T c1 c2 u n0 Q (.o (⟨d,op,some (g,t),ks,p,h⟩ :: l) :: st) .normal fr m n =
    (match get fr g with
      | .bool t'=>(t'=t→evO T c1 fr m n (fun v m' n'=>den T c1 c2 u n0 Q (.o l :: st) .normal (dels (putO fr d v) ks) m' n') op) ∧
          (t'=!t→den T c1 c2 u n0 Q (.o l :: st) .normal (dels (putO fr d (.val undef)) ks) m n)
      | .val (.tuple _)=>den T c1 c2 u n0 Q (.o l :: st) .normal (dels (putO fr d (.val undef)) ks) m n
      | _=>False):=(rfl)
theorem den_skip:den T c1 c2 u n0 Q (.c .skip :: st) .normal fr m n=den T c1 c2 u n0 Q st .normal fr m n:=(rfl)
theorem den_reg:den T c1 c2 u n0 Q (.c (.reg l) :: st) .normal fr m n=den T c1 c2 u n0 Q (.o l :: st) .normal fr m n:=(rfl)
theorem den_regP:den T c1 c2 u n0 Q (.c (.regP k l) :: st) .normal fr m n=den T c1 c2 u n0 Q (.o l :: st) .normal fr m n:=(rfl)
theorem den_regD:den T c1 c2 u n0 Q (.c (.regD k l) :: st) .normal fr m n=evA T c1 fr m (l.take k) [] n (denA T c1 k l fr m (den T c1 c2 u n0 Q st)):=(rfl)
theorem den_regK {t:Nat}:den T c1 c2 u n0 Q (.c (.regK t k l) :: st) .normal fr m n=onKept fr m t fun b B=>evA T (callK (some (b,B)) c1) fr m (l.take k) [] n (denA T c1 k l fr m (den T c1 c2 u n0 Q st)):=(rfl)
theorem den_regW:den T c1 c2 u n0 Q (.c (.regW k l) :: st) .normal fr m n=evW T c1 fr m (l.take k) [] n (denW T c1 k l fr m (den T c1 c2 u n0 Q st)):=(rfl)
theorem den_W {d:List DW}:denW T c1 k l fr m (den T c1 c2 u n0 Q st) d n =
    den T c1 c2 u n0 Q (.o (l.drop k) :: st) .normal (dels (frD (baseD d).reverse fr) (kills (l.take k))) (updsW d (memD (baseD d).reverse m)) n:=(rfl)
theorem den_bad:den T c1 c2 u n0 Q (.c .bad :: st) .normal fr m n=False:=(rfl)
theorem den_A {d:List Dn}:denA T c1 k l fr m (den T c1 c2 u n0 Q st) d n =
    den T c1 c2 u n0 Q (.o (l.drop k) :: st) .normal (dels (frD d.reverse fr) (kills (l.take k))) (memD d.reverse m) n:=(rfl)
theorem den_seq:den T c1 c2 u n0 Q (.c (.seq a b) :: st) .normal fr m n=den T c1 c2 u n0 Q (.c a :: .c b :: st) .normal fr m n:=(rfl)
theorem den_cond:den T c1 c2 u n0 Q (.c (.cond x a b) :: st) .normal fr m n =
    (match x.ev fr with
      | .bool t=>gd t true (den T c1 c2 u n0 Q (.c a :: st) .normal fr m n) (den T c1 c2 u n0 Q (.c b :: st) .normal fr m n)
      | _=>False):=(rfl)
theorem den_block:den T c1 c2 u n0 Q (.c (.block j c) :: st) .normal fr m n=den T c1 c2 u n0 Q (.c c :: .b j :: st) .normal fr m n:=(rfl)
theorem den_loopU {k:Nat}:den T c1 c2 (some k) n0 Q (.c (.loop c) :: st) .normal fr m n=den T c1 c2 (some k) n0 Q (.u k c :: st) .normal fr m n:=(rfl)
theorem den_loop:den T c1 c2 none n0 Q (.c (.loop c) :: st) .normal fr m n=∃ k,loopN n0 (exC T c2 n0 c) (den T c1 c2 none n0 Q st) k fr m n:=(rfl)
theorem den_exit:den T c1 c2 u n0 Q (.c (.exit j) :: st) .normal fr m n=den T c1 c2 u n0 Q st (.exit j) fr m n:=(rfl)
theorem den_ret:den T c1 c2 u n0 Q (.c .ret :: st) .normal fr m n=den T c1 c2 u n0 Q st .ret fr m n:=(rfl)
theorem den_b:den T c1 c2 u n0 Q (.b j :: st) .normal fr m n=den T c1 c2 u n0 Q st .normal fr m n:=(rfl)
theorem den_xb:den T c1 c2 u n0 Q (.b j :: st) (.exit k) fr m n=if k=j then den T c1 c2 u n0 Q st .normal fr m n else den T c1 c2 u n0 Q st (.exit k) fr m n:=(rfl)
theorem den_xo:den T c1 c2 u n0 Q (.o l :: st) (.exit k) fr m n=den T c1 c2 u n0 Q st (.exit k) fr m n:=(rfl)
theorem den_xc:den T c1 c2 u n0 Q (.c c :: st) (.exit k) fr m n=den T c1 c2 u n0 Q st (.exit k) fr m n:=(rfl)
theorem den_xu:den T c1 c2 u n0 Q (.u j c :: st) (.exit k) fr m n=den T c1 c2 u n0 Q st (.exit k) fr m n:=(rfl)
theorem den_rb:den T c1 c2 u n0 Q (.b j :: st) .ret fr m n=den T c1 c2 u n0 Q st .ret fr m n:=(rfl)
theorem den_ro:den T c1 c2 u n0 Q (.o l :: st) .ret fr m n=den T c1 c2 u n0 Q st .ret fr m n:=(rfl)
theorem den_rc:den T c1 c2 u n0 Q (.c c :: st) .ret fr m n=den T c1 c2 u n0 Q st .ret fr m n:=(rfl)
theorem den_ru:den T c1 c2 u n0 Q (.u j c :: st) .ret fr m n=den T c1 c2 u n0 Q st .ret fr m n:=(rfl)
theorem den_u:den T c1 c2 u n0 Q (.u (k+1) c :: st) .normal fr m n=den T c1 c2 u n0 Q (.c c :: .u k c :: st) .normal fr m n:=(rfl)

theorem den_unroll (hc:∀ f a m n K,c1 f a m n K→c2 f a m n K) (hp:PointC c2) (k:Nat) (h:den T c1 c2 u n0 Q (.u k c :: st) .normal fr m n) :
    ∃ k,loopN n0 (exC T c2 n0 c) (den T c1 c2 u n0 Q st) k fr m n:=⟨k,loopN_ofU hp (exC_of_ev hc hp c) h⟩

def again {σ:Type} (n0:Nat) (F:σ→Fr) (M:σ→Mem) (B:σ→Nat) (Inv:σ→Prop) (μ:σ→Nat) (s:σ) (Q:Post):Post:=
  seqQ (fun fr' m' n'=>∃ s',Ent n0 fr' m' n' (F s') (M s') (B s')∧Inv s'∧μ s' < μ s) Q

theorem den_inv {P:Program} (hc:∀ f a m n K,c1 f a m n K→callT P T f a m n K) {σ:Type}
    (F:σ→Fr) (M:σ→Mem) (B:σ→Nat) (Inv:σ→Prop) (μ:σ→Nat) (s:σ) (hE:Ent n0 fr m n (F s) (M s) (B s)) (hI:Inv s)
    (round:∀ s,Inv s→den T c1 (callT P T) u n0 (again n0 F M B Inv μ s (den T c1 (callT P T) u n0 Q st)) [.c c] .normal (F s) (M s) (B s)) :
    ∃ k,loopN n0 (exC T (callT P T) n0 c) (den T c1 (callT P T) u n0 Q st) k fr m n:=
  loop_code F M B Inv μ s hE hI fun s hs=>exC_of_ev hc (callT_point P T) _ _ _ _ _ (round s hs)

theorem again_n {σ:Type} {F:σ→Fr} {M:σ→Mem} {B:σ→Nat} {Inv:σ→Prop} {μ:σ→Nat} {s:σ} {Q:Post} :
    again n0 F M B Inv μ s Q .normal fr m n=∃ s',Ent n0 fr m n (F s') (M s') (B s')∧Inv s'∧μ s' < μ s:=(rfl)
theorem again_x {σ:Type} {F:σ→Fr} {M:σ→Mem} {B:σ→Nat} {Inv:σ→Prop} {μ:σ→Nat} {s:σ} {Q:Post} :
    again n0 F M B Inv μ s Q (.exit j) fr m n=Q (.exit j) fr m n:=(rfl)
theorem again_r {σ:Type} {F:σ→Fr} {M:σ→Mem} {B:σ→Nat} {Inv:σ→Prop} {μ:σ→Nat} {s:σ} {Q:Post} :
    again n0 F M B Inv μ s Q .ret fr m n=Q .ret fr m n:=rfl

-- the shape in which simp unfolds first
theorem u_onInt {v:SV} {F:Int→Prop}:onInt v F=(match v with | .int _ n=>F n | _=>False):=(rfl)
theorem u_onBool {v:SV} {F:Bool→Prop}:onBool v F=(match v with | .bool b=>F b | _=>False):=(rfl)
theorem u_onOpt0 {d:Int} {F:Int→Prop}:onOpt fr none d F=F d:=(rfl)
theorem u_onOpt1 {d:Int} {F:Int→Prop}:onOpt fr (some x) d F=(match x.ev fr with | .int _ n=>F n | _=>False):=(rfl)
theorem u_binV {op:BinOp} {x y:SV} {F:SV→Prop}:binV op x y F=(match x,y with
  | .int k a,.int k' b=>binI op k k' a b F
  | .str a,.str b=>binS op a b F
  | _,_=>False):=(rfl)
theorem u_srcOf {s:Nat} {v:SV} {F:Nat→List SV→Prop}:srcOfE m s v F=(match v with
  | .str t=>s=1∧F t.length (t.map SV.byte)
  | v=>srcSlE m s v F):=(rfl)
theorem u_srcSl {s:Nat} {v:SV} {F:Nat→List SV→Prop}:srcSlE m s v F=(match v with
  | .slc i o s' len _=>match rd m i with
    | some B=>s'=s∧o+len * s≤B.cells.length∧F len ((B.cells.drop o).take (len * s))
    | none=>False
  | .val (.slice none 0 0)=>F 0 []
  | .val (.slice (some _) 0 _)=>F 0 []
  | _=>False):=(rfl)
end
/- the ends of functions -/
def evRes (T:List (Nat × List SV)) (fr:Fr):List RV→Mem→Nat→(List SV→Mem→Nat→Prop)→Prop
  | [],m,n,K=>K [] m n
  | .t d :: r,m,n,K=>evRes T fr r m n fun l m n=>K (get fr d :: l) m n
  | .c d g :: r,m,n,K=>evO T (fun _ _ _ _ _=>False) fr m n (fun v m n=>evRes T fr r m n fun l m n=>K (v :: l) m n) (.load g (.t d))

theorem exRes_mono {T:List (Nat × List SV)} {fr:Fr}:∀ {rs:List RV} {m:Mem} {n:Nat} {K K':List SV→Mem→Nat→Prop},exRes T fr rs m n K→(∀ l m n,K l m n→K' l m n)→exRes T fr rs m n K'
  | [],m,n,K,K',h,hK=>hK _ _ _ h
  | .t d :: r,m,n,K,K',h,hK=>exRes_mono (rs:=r) h fun l m n h=>hK _ _ _ h
  | .c d g :: r,m,n,K,K',h,hK=>by
    simp only [exRes] at h ⊢
    exact exO_mono (fun _ _ _ _ _ h=>h.elim) h fun v m n h=>exRes_mono h fun l m n h=>hK _ _ _ h

theorem exRes_of_ev {T:List (Nat × List SV)} {fr:Fr}:∀ {rs:List RV} {m:Mem} {n:Nat} {K:List SV→Mem→Nat→Prop},evRes T fr rs m n K→exRes T fr rs m n K
  | [],m,n,K,h=>h
  | .t d :: r,m,n,K,h=>exRes_of_ev (rs:=r) h
  | .c d g :: r,m,n,K,h=>by
    simp only [evRes] at h
    simp only [exRes]
    exact exO_mono (fun _ _ _ _ _ h=>h.elim) (exO_of_ev _ h) fun v m n h=>exRes_of_ev h

def finP (T:List (Nat × List SV)) (res:List RV) (r:SV):Post:=fun e fr m n=>
  match e with
  | .exit _=>False
  | _=>evRes T fr res m n fun l _ _=>retOf l=r
theorem finP_r {T:List (Nat × List SV)} {res:List RV} {r:SV} {fr:Fr} {m:Mem} {n:Nat}:finP T res r .ret fr m n=evRes T fr res m n fun l _ _=>retOf l=r:=(rfl)
theorem finP_n {T:List (Nat × List SV)} {res:List RV} {r:SV} {fr:Fr} {m:Mem} {n:Nat}:finP T res r .normal fr m n=evRes T fr res m n fun l _ _=>retOf l=r:=(rfl)
theorem finP_x {T:List (Nat × List SV)} {res:List RV} {r:SV} {fr:Fr} {m:Mem} {n j:Nat}:finP T res r (.exit j) fr m n=False:=(rfl)

theorem fun_pure {P:Program} {T:List (Nat × List SV)} (u:Option Nat) (c1:CallT) (hF:∀ f a m n K,c1 f a m n K→callT P T f a m n K) {f:FuncId} {sf:SF} {args:List SV} {r:SV}
    (hc:chkF P f sf=true) (hlen:args.length≤sf.n) (hr:∀ η,r.ren η=r)
    (h:den T c1 (callT P T) u 0 (finP T sf.res r) [.c sf.body] .normal (frOf 0 args) [] 0):Fun P T f args [] 0 r [] 0:=by
  refine fun_of_exec hc hlen (Nat.le_refl _) (exC_mono (callT_point P T) _ _ _ _ _ _ (exC_of_ev hF (callT_point P T) _ _ _ _ _ h) fun e fr m n h=>?_)
  have key:(evRes T fr sf.res m n fun l _ _=>retOf l=r)→exRes T fr sf.res m n fun l m1 n1=>∃ hs,EntM 0 m1 n1 hs [] 0∧retOf l=r.ren (eta hs n1):=fun h=>
    exRes_mono (exRes_of_ev h) fun l m n h=>⟨[],⟨rfl,Nat.le_refl _,rfl,trivial,trivial,trivial⟩,by rw [hr];exact h⟩
  cases e with
  | normal=>exact key h
  | exit j=>exact h
  | ret=>exact key h
end Go.Sx

/- The engine, part W: each operation of the evaluator by itself. -/
namespace Go.Sx
open Go
set_option linter.unusedSimpArgs false
set_option linter.unusedVariables false
section
variable {T:List (Nat × List SV)} {call:CallT} {fr:Fr} {m:Mem} {n:Nat} {K:Kt}
theorem e_box {e:TypeId} {x:Opd}:evO T call fr m n K (.box e x)=(match (x.ev fr).cells? with
      | some l=>K (.ptr n 0) ((n,⟨.own e,l⟩) :: m) (n+1)
      | none=>False):=(rfl)
theorem e_build {z:List SV} {parts:List (Nat × Nat × Opd)}:evO T call fr m n K (.build z parts)=(fillE fr z parts fun cs=>K (.agg cs) m n):=(rfl)
theorem e_bslice {e:TypeId} {s:Nat} {k:Nat} {z:List SV} {parts:List (Nat × Nat × Opd)}:evO T call fr m n K (.bslice e s k z parts)=(fillE fr z parts fun cs=>K (.slc n 0 s k none) ((n,⟨.own e,cs⟩) :: m) (n+1)):=(rfl)
theorem e_load {agg:Option Nat} {x:Opd}:evO T call fr m n K (.load agg x)=(match x.ev fr with
      | .ptr i o=>match rd m i with
        | some B=>match agg with
          | none=>match B.cells[o]? with
            | some v=>K v m n
            | none=>False
          | some k=>o+k≤B.cells.length∧K (.agg ((B.cells.drop o).take k)) m n
        | none=>False
      | .gp g o=>match lookT T g with
        | some cs=>match agg with
          | none=>match cs[o]? with
            | some v=>K v m n
            | none=>False
          | some k=>o+k≤cs.length∧K (.agg ((cs.drop o).take k)) m n
        | none=>False
      | _=>False):=(rfl)
theorem e_store {k:Nat} {a:Opd} {x:Opd}:evO T call fr m n K (.store k a x)=(match a.ev fr with
      | .ptr i o=>match rd m i with
        | some ⟨.own e,cells⟩=>match (x.ev fr).cells? with
          | some l=>l.length=k∧o+k≤cells.length∧K .any (upd m i ⟨.own e,splice cells o l⟩) n
          | none=>False
        | _=>False
      | _=>False):=(rfl)
theorem e_idxS {x:Opd} {i:Opd} {s:Nat}:evO T call fr m n K (.idxS x i s)=(match i.ev fr with
      | .int _ ix=>match x.ev fr with
        | .slc b o s' len _=>match rd m b with
          | some B=>s'=s∧0≤ix∧ix < len∧o+ix.toNat * s < B.cells.length∧K (.ptr b (o+ix.toNat * s)) m n
          | none=>False
        | _=>False
      | _=>False):=(rfl)
theorem e_idxV {x:Opd} {i:Opd} {len:Nat} {s:Nat} {agg:Bool}:evO T call fr m n K (.idxV x i len s agg)=(match i.ev fr with
      | .int _ ix=>match x.ev fr with
        | .agg l=>0≤ix∧ix < len∧match agg with
          | true=>K (.agg ((l.drop (ix.toNat * s)).take s)) m n
          | false=>match l[ix.toNat * s]? with
            | some v=>K v m n
            | none=>False
        | _=>False
      | _=>False):=(rfl)
theorem e_idxT {x:Opd} {i:Opd}:evO T call fr m n K (.idxT x i)=(match i.ev fr with
      | .int _ ix=>match x.ev fr with
        | .str t=>0≤ix∧match t[ix.toNat]? with
          | some c=>K (SV.byte c) m n
          | none=>False
        | _=>False
      | _=>False):=(rfl)
theorem e_fieldV {x:Opd} {off:Nat} {agg:Option Nat}:evO T call fr m n K (.fieldV x off agg)=(match x.ev fr with
      | .agg l=>match agg with
        | some k=>K (.agg ((l.drop off).take k)) m n
        | none=>match l[off]? with
          | some v=>K v m n
          | none=>False
      | _=>False):=(rfl)
theorem e_eqv {neg:Bool} {pat:List Tag} {x:Opd} {y:Opd}:evO T call fr m n K (.eqv neg pat x y)=(match x.ev fr,y.ev fr with
      | .agg l,.agg l'=>match eqPat pat l l' with
        | some b=>K (.bool (if neg then !b else b)) m n
        | none=>False
      | _,_=>False):=(rfl)
theorem e_isNil {neg:Bool} {x:Opd}:evO T call fr m n K (.isNil neg x)=(match x.ev fr with
      | .val (.slice none 0 0)=>K (.bool (!neg)) m n
      | .val (.slice (some _) _ _)=>K (.bool neg) m n
      | .slc b o _ _ _=>match rd m b with
        | some B=>o < B.cells.length∧K (.bool neg) m n
        | none=>False
      | _=>False):=(rfl)
theorem e_b2s {x:Opd}:evO T call fr m n K (.b2s x)=(srcSlE m 1 (x.ev fr) fun _ l=>l.all isU8=true∧K (.str (l.map byteOf)) m n):=(rfl)
theorem e_slcS {s:Nat} {x:Opd} {lo:Option Opd} {hi:Option Opd}:evO T call fr m n K (.slcS s x lo hi)=(match x.ev fr with
      | .slc b o s' len cap=>
        s'=s∧(match cap with
          | none=>(match rd m b with
            | some B=>o+len * s≤B.cells.length
            | none=>False)
          | some c=>len≤c) ∧
        onOpt fr lo 0 fun l=>onOpt fr hi len fun h=>0≤l∧l≤h∧h≤len ∧
          K (.slc b (o+l.toNat * s) s (h.toNat - l.toNat) (cap.map (· - l.toNat))) m n
      | .val (.slice none 0 0)=>onOpt fr lo 0 fun l=>onOpt fr hi 0 fun h=>l=0∧h=0∧K (.val (.slice none 0 0)) m n
      | _=>False):=(rfl)
theorem e_arrAt {k:Nat} {x:Opd}:evO T call fr m n K (.arrAt k x)=(match x.ev fr with
      | .slc b o _ len _=>match rd m b with
        | some B=>0 < k∧k≤len∧o < B.cells.length∧K (.ptr b o) m n
        | none=>False
      | _=>False):=(rfl)
theorem e_ext {x:Opd} {i:Nat}:evO T call fr m n K (.ext x i)=(match x.ev fr with
      | .tup l=>match l[i]? with
        | some v=>K v m n
        | none=>False
      | _=>False):=(rfl)
theorem e_app {e:TypeId} {s:Nat} {bytes:Nat} {x:Opd} {y:Opd}:evO T call fr m n K (.app e s bytes x y)=(srcOfE m s (y.ev fr) fun k l=>
      match x.ev fr with
      | .slc i o s' len cap=>match rd m i with
        | some ⟨.own e',cells⟩=>s'=s∧o=0∧cap=none∧(len+k) * bytes≤2 ^ 40∧bytes≤2 ^ 20∧e'=e∧len * s≤cells.length ∧
          K (.slc n 0 s (len+k) none) ((n,⟨.own e,cells.take (len * s)++l⟩) :: rm m i) (n+1)
        | _=>False
      | .val (.slice none 0 0)=>k * bytes≤2 ^ 40∧bytes≤2 ^ 20∧K (.slc n 0 s k none) ((n,⟨.own e,l⟩) :: m) (n+1)
      | _=>False):=(rfl)
theorem e_copy {s:Nat} {x:Opd} {y:Opd}:evO T call fr m n K (.copy s x y)=(srcOfE m s (y.ev fr) fun k l=>
      match x.ev fr with
      | .slc i o s' len _=>match rd m i with
        | some ⟨.own e,cells⟩=>s'=s∧o+len * s≤cells.length ∧
          K (.int .i64 (min k len:Nat)) (upd m i ⟨.own e,splice cells o (l.take (min k len * s))⟩) n
        | _=>False
      | _=>False):=(rfl)
theorem e_mv {x:Opd}:evO T call fr m n K (.mv x)=(K (x.ev fr) m n):=(rfl)
theorem e_pick {c:Opd} {a:Opd} {b:Opd}:evO T call fr m n K (.pick c a b)=(match c.ev fr with | .bool t=>gd t true (K (a.ev fr) m n) (K (b.ev fr) m n) | _=>False):=(rfl)
theorem e_new {e:TypeId} {z:List SV}:evO T call fr m n K (.new e z)=(K (.ptr n 0) ((n,⟨.own e,z⟩) :: m) (n+1)):=(rfl)
theorem e_nilc {x:Opd}:evO T call fr m n K (.nilc x)=(match x.ev fr with
      | .ptr i o=>K (.ptr i o) m n
      | .gp g o=>K (.gp g o) m n
      | .fn f a b=>K (.fn f a b) m n
      | _=>False):=(rfl)
theorem e_fld {x:Opd} {off:Nat}:evO T call fr m n K (.fld x off)=(match x.ev fr with
      | .ptr i o=>K (.ptr i (o+off)) m n
      | .gp g o=>K (.gp g (o+off)) m n
      | _=>False):=(rfl)
theorem e_idxA {x:Opd} {i:Opd} {len:Nat} {s:Nat}:evO T call fr m n K (.idxA x i len s)=(onInt (i.ev fr) fun ix=>0≤ix∧ix < len ∧
      match x.ev fr with
      | .ptr b o=>K (.ptr b (o+ix.toNat * s)) m n
      | .gp b o=>K (.gp b (o+ix.toNat * s)) m n
      | _=>False):=(rfl)
theorem e_bin {op:BinOp} {x:Opd} {y:Opd}:evO T call fr m n K (.bin op x y)=(binV op (x.ev fr) (y.ev fr) fun v=>K v m n):=(rfl)
theorem e_eqb {neg:Bool} {x:Opd} {y:Opd}:evO T call fr m n K (.eqb neg x y)=(match x.ev fr,y.ev fr with
      | .bool a,.bool c=>K (.bool (if neg then !(a == c) else a == c)) m n
      | _,_=>False):=(rfl)
theorem e_un {op:UnOp} {x:Opd}:evO T call fr m n K (.un op x)=(match op,x.ev fr with
      | .not,.bool b=>K (.bool (!b)) m n
      | .neg,.int k a=>K (.int k (k.wrap (0 - a))) m n
      | .xor,.int k a=>K (.int k (bitop .xor k (if k.signed then -1 else k.max) a)) m n
      | _,_=>False):=(rfl)
theorem e_conv {k:IntKind} {x:Opd}:evO T call fr m n K (.conv k x)=(match x.ev fr with
      | .int _ a=>K (.int k (k.wrap a)) m n
      | _=>False):=(rfl)
theorem e_strS {x:Opd}:evO T call fr m n K (.strS x)=(match x.ev fr with
      | .str t=>K (.str t) m n
      | _=>False):=(rfl)
theorem e_s2b {e:TypeId} {x:Opd}:evO T call fr m n K (.s2b e x)=(match x.ev fr with
      | .str t=>K (.slc n 0 1 t.length none) ((n,⟨.own e,t.map SV.byte⟩) :: m) (n+1)
      | _=>False):=(rfl)
theorem e_mkfn {f:FuncId} {first:List Opd} {cap:List Opd}:evO T call fr m n K (.mkfn f first cap)=(K (.fn f (first.map (·.ev fr)) (cap.map (·.ev fr))) m n):=(rfl)
theorem e_mksl {e:TypeId} {s:Nat} {bytes:Nat} {z:List SV} {l:Opd} {c:Opd}:evO T call fr m n K (.mksl e s bytes z l c)=(onInt (l.ev fr) fun ln=>onInt (c.ev fr) fun cp=>0≤ln∧ln≤cp∧cp * bytes≤2 ^ 40∧cp≤2 ^ 40 ∧
        K (.slc n 0 s ln.toNat none) ((n,⟨.own e,rep cp.toNat z⟩) :: m) (n+1)):=(rfl)
theorem e_slcA {k:Nat} {s:Nat} {x:Opd} {lo:Option Opd} {hi:Option Opd}:evO T call fr m n K (.slcA k s x lo hi)=(match x.ev fr with
      | .ptr b o=>onOpt fr lo 0 fun l=>onOpt fr hi k fun h=>0≤l∧l≤h∧h≤k ∧
          K (.slc b (o+l.toNat * s) s (h.toNat - l.toNat) (some (k - l.toNat))) m n
      | _=>False):=(rfl)
theorem e_slcT {x:Opd} {lo:Option Opd} {hi:Option Opd}:evO T call fr m n K (.slcT x lo hi)=(match x.ev fr with
      | .str t=>onOpt fr lo 0 fun l=>onOpt fr hi t.length fun h=>0≤l∧l≤h∧h≤t.length ∧
          K (.str ((t.drop l.toNat).take (h.toNat - l.toNat))) m n
      | _=>False):=(rfl)
theorem e_call {f:FuncId} {args:List Opd}:evO T call fr m n K (.call f args)=(call f (args.map (·.ev fr)) m n K):=(rfl)
theorem e_callp {f:FuncId} {args:List Opd}:evO T call fr m n K (.callp f args)=(SV.flatL (args.map (·.ev fr))=true∧call f (args.map (·.ev fr)) [] 0 fun v m' n'=>m'=[]∧n'=0∧v.flat=true∧K v m n):=(rfl)
theorem e_callv {x:Opd} {args:List Opd}:evO T call fr m n K (.callv x args)=(match x.ev fr with
      | .fn f first cap=>call f (first++args.map (·.ev fr)++cap) m n K
      | _=>False):=(rfl)
theorem e_len {isStr:Bool} {x:Opd}:evO T call fr m n K (.len isStr x)=(match isStr,x.ev fr with
      | true,.str t=>K (.int .i64 t.length) m n
      | false,.slc _ _ _ l _=>K (.int .i64 l) m n
      | false,.val (.slice none 0 0)=>K (.int .i64 0) m n
      | _,_=>False):=(rfl)
theorem e_lenA {k:Nat}:evO T call fr m n K (.lenA k)=(K (.int .i64 k) m n):=(rfl)
theorem e_mkmap {a:Option Nat}:evO T call fr m n K (.mkmap a)=K (.mp n) ((n,⟨.map a [],[]⟩) :: m) (n+1):=(rfl)
theorem e_mput {a:Option Nat} {x key:Opd}:evO T call fr m n K (.mput a x key)=(match x.ev fr with
    | .mp i=>match keysOf m i with
      | some (a',ks)=>match kvOf a (key.ev fr) with
        | some kv=>a'=a∧K .any (upd m i ⟨.map a (insK ks kv),[]⟩) n
        | none=>False
      | none=>False
    | _=>False):=(rfl)
theorem e_mlen {x:Opd}:evO T call fr m n K (.mlen x)=(match x.ev fr with
    | .mp i=>match keysOf m i with
      | some (_,ks)=>K (.int .i64 ks.length) m n
      | none=>False
    | _=>False):=(rfl)
theorem e_mk8 {x:Opd}:evO T call fr m n K (.mk8 x)=(match x.ev fr with
    | .slc i o s len cap=>match rd m i with
      | some ⟨.own e,cells⟩=>0 < len∧0 < cells.length∧K (.slc i o s len cap) (upd m i ⟨.own e,cells⟩) n
      | _=>False
    | _=>False):=(rfl)
theorem e_pcmp {neg:Bool} {x y:Opd}:evO T call fr m n K (.pcmp neg x y)=(match x.ev fr,y.ev fr with
    | .val (.pointer none),.val (.pointer none)=>K (.bool (!neg)) m n
    | .ptr _ _,.val (.pointer none)=>K (.bool neg) m n
    | .ptr i o,.ptr j o'=>i=j∧o=o'∧K (.bool (!neg)) m n
    | _,_=>False):=(rfl)
theorem e_cvp {e:TypeId} {k:Nat} {x:Opd}:evO T call fr m n K (.cvp e k x)=(match x.ev fr with
    | .ptr i o=>match rd m i with
      | some ⟨.own e',cells⟩=>e'=e∧o=0∧cells.length=k∧K (.ptr i o) m n
      | _=>False
    | _=>False):=(rfl)
theorem e_noesc {f:FuncId} {x:Opd}:evO T call fr m n K (.noesc f x)=K (x.ev fr) m n:=(rfl)
theorem e_sdat {s:Nat} {x:Opd}:evO T call fr m n K (.sdat s x)=(match x.ev fr with
    | .slc i o s' _ none=>match rd m i with
      | some B=>s'=s∧o+s≤B.cells.length∧K (.ptr i o) m n
      | none=>False
    | _=>False):=(rfl)
theorem e_ustr {e:TypeId} {x y:Opd}:evO T call fr m n K (.ustr e x y)=(match x.ev fr,y.ev fr with
    | .ptr i o,.int .i64 l=>match rd m i with
      | some ⟨.own e',cells⟩=>e'=e∧o=0∧0 < l∧l≤9223372036854775807∧l.toNat≤cells.length∧(cells.take l.toNat).all isByte=true∧K (.str ((cells.take l.toNat).map byteOf)) (upd m i ⟨.view,cells⟩) n
      | _=>False
    | _,_=>False):=(rfl)
theorem e_capN {x:Opd}:evO T call fr m n K (.capN x)=(match x.ev fr with
    | .val (.slice none 0 0)=>K (.int .i64 0) m n
    | _=>False):=(rfl)
theorem e_appZ {e:TypeId} {s bytes:Nat} {z:List SV} {x k:Opd}:evO T call fr m n K (.appZ e s bytes z x k)=(onInt (k.ev fr) fun k=>
    match x.ev fr with
    | .val (.slice none 0 0)=>0 < k∧k * bytes≤2 ^ 40∧bytes≤2 ^ 20∧K (.slc n 0 s k.toNat none) ((n,⟨.own e,rep k.toNat z⟩) :: m) (n+1)
    | _=>False):=(rfl)
theorem e_mx {x:Opd} {y:Opd}:evO T call fr m n K (.mx x y)=(match x.ev fr,y.ev fr with
      | .int k a,.int _ b=>K (.int k (if b > a then b else a)) m n
      | _,_=>False):=(rfl)
theorem e_mn {x:Opd} {y:Opd}:evO T call fr m n K (.mn x y)=(match x.ev fr,y.ev fr with
      | .int k a,.int _ b=>K (.int k (if b < a then b else a)) m n
      | _,_=>False):=(rfl)
end
def setv:Fr→Nat→SV→Fr
  | [],_,_=>[]
  | (e,u) :: r,g,v=>if e=g then (e,v) :: r else (e,u) :: setv r g v

theorem setv_self:∀ {fr:Fr} {g:Nat} {v:SV},Sx.get fr g=v→setv fr g v=fr
  | [],_,_,_=>rfl
  | (e,u) :: r,g,v,h=>by
    unfold Sx.get at h
    unfold setv
    split
    · rename_i he;rw [if_pos he] at h;rw [h]
    · rename_i he;rw [if_neg he] at h;rw [setv_self h]

theorem den_g {T:List (Nat × List SV)} {c1 c2:CallT} {u:Option Nat} {n0:Nat} {Q:Post} {st:List It} {fr:Fr} {m:Mem} {n:Nat} {l:List Opr} {d:Option Nat} {op:SOp} {g:Nat} {t:Bool} {ks p h:List Nat} :
    den T c1 c2 u n0 Q (.o (⟨d,op,some (g,t),ks,p,h⟩ :: l) :: st) .normal fr m n =
    (match Sx.get fr g with
      | .bool t'=>gd t' t (evO T c1 (setv fr g (.bool t)) m n (kont T c1 c2 u n0 Q l st (setv fr g (.bool t)) d ks) op)
          (den T c1 c2 u n0 Q (.o l :: st) .normal (dels (putO (setv fr g (.bool (!t))) d (.val undef)) ks) m n)
      | .val (.tuple _)=>den T c1 c2 u n0 Q (.o l :: st) .normal (dels (putO fr d (.val undef)) ks) m n
      | _=>False):=by
  rw [den_o2]
  generalize hg:Sx.get fr g=gv
  cases gv with
  | bool t'=>
    apply propext
    constructor
    · rintro ⟨h1,h2⟩
      refine ⟨fun e=>?_,fun e=>?_⟩
      · rw [setv_self (by rw [hg,e])];exact h1 e
      · rw [setv_self (by rw [hg,e])];exact h2 e
    · rintro ⟨h1,h2⟩
      refine ⟨fun e=>?_,fun e=>?_⟩
      · have:=h1 e;rwa [setv_self (by rw [hg,e])] at this
      · have:=h2 e;rwa [setv_self (by rw [hg,e])] at this
  | val v=>cases v <;> rfl
  | _=>rfl

theorem wrap64 {n:Int} (h1:-9223372036854775808≤n) (h2:n≤9223372036854775807):IntKind.i64.wrap n=n:=by
  rw [IntKind.wrap_i64];omega
end Go.Sx

/- The engine, part X: tables of what is known of calls; functions that change one block. -/
namespace Go.Sx
open Go
set_option linter.unusedSimpArgs false
set_option linter.unusedVariables false
def lookF {α:Type}:List (FuncId × α)→FuncId→Option α
  | [],_=>none
  | (g,x) :: r,f=>if g=f then some x else lookF r f
theorem lookF_mem {α:Type}:∀ {L:List (FuncId × α)} {f:FuncId} {x:α},lookF L f=some x→(f,x) ∈ L
  | (g,y) :: r,f,x,h=>by
    unfold lookF at h
    split at h
    · rename_i e;subst e;cases h;exact List.mem_cons_self
    · exact List.mem_cons_of_mem _ (lookF_mem h)

structure Tab where
  p:List (FuncId × (List SV→Option SV))
  o:List (FuncId × TypeId × (List SV→List SV→Option (SV × List SV)))

def callX (L:Tab):CallT:=fun f args m n K=>
  match lookF L.p f with
  | some g=>(match g args with
    | some r=>K r m n
    | none=>False)
  | none=>match lookF L.o f with
    | some (e,g)=>(match args with
      | .ptr i 0 :: rest=>(match rd m i with
        | some ⟨.own e',cells⟩=>if e'=e then (match g rest cells with
          | some (r,cells')=>i < n∧K r ((i,⟨.own e,cells'⟩) :: rm m i) n
          | none=>False) else False
        | _=>False)
      | _=>False)
    | none=>False

theorem u_callX {L:Tab} {f:FuncId} {args:List SV} {m:Mem} {n:Nat} {K:Kt}:callX L f args m n K=(match lookF L.p f with
  | some g=>(match g args with
    | some r=>K r m n
    | none=>False)
  | none=>match lookF L.o f with
    | some (e,g)=>(match args with
      | .ptr i 0 :: rest=>(match rd m i with
        | some ⟨.own e',cells⟩=>if e'=e then (match g rest cells with
          | some (r,cells')=>i < n∧K r ((i,⟨.own e,cells'⟩) :: rm m i) n
          | none=>False) else False
        | _=>False)
      | _=>False)
    | none=>False):=(rfl)

def Plain (l:List SV):Prop:=∀ η,SV.renL η l=l

structure TabX (P:Program) (T:List (Nat × List SV)) (L:Tab):Prop where
  p:∀ x ∈ L.p,∀ args r,x.2 args=some r→Fun P T x.1 args [] 0 r [] 0∧Plain args∧Plain [r]
  o:∀ x ∈ L.o,∀ args cells r cells',x.2.2 args cells=some (r,cells') →
    Fun P T x.1 (.ptr 0 0 :: args) [(0,⟨.own x.2.1,cells⟩)] 1 r [(0,⟨.own x.2.1,cells'⟩)] 1∧Plain args∧Plain cells∧Plain [r]∧Plain cells'

theorem callX_ok {P:Program} {T:List (Nat × List SV)} {L:Tab} (h:TabX P T L):∀ f a m n K,callX L f a m n K→callT P T f a m n K:=by
  intro f a m n K hk
  unfold callX at hk
  split at hk
  · rename_i g hg
    split at hk
    · rename_i r hr
      obtain ⟨h1,h2,h3⟩:=h.p _ (lookF_mem hg) _ _ hr
      refine ⟨[],a,[],r,[],0,h1,(h2 _).symm,trivial,trivial,trivial,by simp,trivial,?_⟩
      have h4:r.ren (eta [] n)=r:=by have:=h3 (eta [] n);simpa [SV.renL] using this
      rw [h4];exact hk
    · exact hk.elim
  · split at hk
    · rename_i e g hg
      split at hk
      · rename_i i rest
        split at hk
        · rename_i e' cells hB
          split at hk
          · rename_i he
            subst he
            split at hk
            · rename_i r cells' hr
              obtain ⟨h1,h2,h3,h4,h5⟩:=h.o _ (lookF_mem hg) _ _ _ _ hr
              have e0:eta [(i,0)] n 0=(i,0):=rfl
              have e1:SV.ren (eta [(i,0)] n) (.ptr 0 0)=.ptr i 0:=by simp [SV.ren,e0]
              have e2:r.ren (eta [(i,0)] n)=r:=by have:=h4 (eta [(i,0)] n);simpa [SV.renL] using this
              refine ⟨[(i,0)],.ptr 0 0 :: rest,[(0,⟨.own e',cells⟩)],r,[(0,⟨.own e',cells'⟩)],1,h1,?_,?_,?_,?_,?_,?_,?_⟩
              · simp only [SV.renL,e1,h2 _]
              · refine ⟨⟨_,by rw [e0];exact hB,?_⟩,trivial⟩
                exact ⟨by rw [e0],rfl,(h3 _).symm⟩
              · exact ⟨by simp,trivial⟩
              · exact ⟨by simp,trivial⟩
              · intro x hx;simp at hx;subst hx;exact hk.1
              · exact ⟨fun _=>by rw [e0],trivial⟩
              · rw [e2]
                have:newOwn (eta [(i,0)] n) [(0,⟨.own e',cells'⟩)]++rms m (targets (eta [(i,0)] n) [(0,⟨.own e',cells⟩)])=(i,⟨.own e',cells'⟩) :: rm m i:=by
                  simp [newOwn,targets,rms,Kind.isOwn,e0,h5 _]
                rw [this]
                simpa using hk.2
            · exact hk.elim
          · exact hk.elim
        · exact hk.elim
      · exact hk.elim
    · exact hk.elim

def finO (T:List (Nat × List SV)) (res:List RV) (r:SV) (e:TypeId) (cells:List SV):Post:=fun x fr m n=>
  match x with
  | .exit _=>False
  | _=>evRes T fr res m n fun l m _=>(match rd m 0 with | some B=>B=⟨.own e,cells⟩ | none=>False)∧retOf l=r
section
variable {T:List (Nat × List SV)} {res:List RV} {r:SV} {e:TypeId} {cells:List SV} {fr:Fr} {m:Mem} {n j:Nat}
theorem finO_r:finO T res r e cells .ret fr m n=evRes T fr res m n fun l m _=>(match rd m 0 with | some B=>B=⟨.own e,cells⟩ | none=>False)∧retOf l=r:=(rfl)
theorem finO_n:finO T res r e cells .normal fr m n=evRes T fr res m n fun l m _=>(match rd m 0 with | some B=>B=⟨.own e,cells⟩ | none=>False)∧retOf l=r:=(rfl)
theorem finO_x:finO T res r e cells (.exit j) fr m n=False:=(rfl)
end
theorem idHs_len:∀ k,(idHs k).length=k
  | 0=>rfl
  | k+1=>by simp [idHs,idHs_len k]

theorem fun_val {P:Program} {T:List (Nat × List SV)} (u:Option Nat) (c1:CallT) (hF:∀ f a m n K,c1 f a m n K→callT P T f a m n K) {f:FuncId} {sf:SF} {args:List SV} {m0:Mem} {n0:Nat} {r:SV}
    (hc:chkF P f sf=true) (hlen:args.length≤sf.n) (hr:∀ η,r.ren η=r)
    (h:den T c1 (callT P T) u n0 (finP T sf.res r) [.c sf.body] .normal (frOf 0 args) m0 n0):Fun P T f args m0 n0 r [] n0:=by
  refine fun_of_exec hc hlen (Nat.le_refl _) (exC_mono (callT_point P T) _ _ _ _ _ _ (exC_of_ev hF (callT_point P T) _ _ _ _ _ h) fun e fr m n h=>?_)
  have key:(evRes T fr sf.res m n fun l _ _=>retOf l=r)→exRes T fr sf.res m n fun l m1 n1=>∃ hs,EntM n0 m1 n1 hs [] n0∧retOf l=r.ren (eta hs n1):=fun h=>
    exRes_mono (exRes_of_ev h) fun l m n h=>⟨idHs n0,⟨idHs_len n0,Nat.le_refl _,by rw [List.take_of_length_le (by rw [idHs_len];exact Nat.le_refl _)],trivial,trivial,trivial⟩,by rw [hr];exact h⟩
  cases e with
  | normal=>exact key h
  | exit j=>exact h
  | ret=>exact key h

def callAnd (f0:FuncId) (cT c:CallT):CallT:=fun f args m n K=>if f=f0 then cT f args m n K else c f args m n K
theorem u_callAnd {f0 f:FuncId} {cT c:CallT} {args:List SV} {m:Mem} {n:Nat} {K:Kt}:callAnd f0 cT c f args m n K=if f=f0 then cT f args m n K else c f args m n K:=(rfl)
theorem callAnd_ok {P:Program} {T:List (Nat × List SV)} {f0:FuncId} {c:CallT} (hc:∀ f a m n K,c f a m n K→callT P T f a m n K) :
    ∀ f a m n K,callAnd f0 (callT P T) c f a m n K→callT P T f a m n K:=by
  intro f a m n K h
  unfold callAnd at h
  split at h
  · exact h
  · exact hc _ _ _ _ _ h
end Go.Sx

/- The engine, part Xs: calls of functions by canonical arguments: slices, pointers and closures in blocks of their own. -/
namespace Go.Sx
open Go
set_option linter.unusedSimpArgs false
set_option linter.unusedVariables false
abbrev CanR (α:Type):=Option (α × List (Nat × Nat) × Mem)

def canLW (f:Nat→SV→CanR SV):Nat→List SV→CanR (List SV)
  | _,[]=>some ([],[],[])
  | k,a :: l=>match f k a with
    | some (a',hs,m0)=>match canLW f (k+hs.length) l with
      | some (l',hs',m0')=>some (a' :: l',hs++hs',m0++m0')
      | none=>none
    | none=>none
def canC (f:Nat→SV→CanR SV) (k:Nat) (cells:List SV):CanR (List SV):=
  match SV.flatL cells with
  | true=>some (cells,[],[])
  | false=>canLW f k cells

-- a value with what it refers to in blocks of their own, numbered from k on
def canV (m:Mem):Nat→Nat→SV→CanR SV
  | 0,_,_=>none
  | d+1,k,.slc i o s len cap=>match rd m i with
    | some B=>if o+len * s≤B.cells.length then (match canC (canV m d) (k+1) ((B.cells.drop o).take (len * s)) with
        | some (cs,hs,m0)=>some (.slc k 0 s len cap,(i,o) :: hs,(k,⟨.view,cs⟩) :: m0)
        | none=>none) else none
    | none=>none
  | d+1,k,.ptr i o=>match rd m i with
    | some ⟨.own e,cells⟩=>match canC (canV m d) (k+1) cells with
      | some (cs,hs,m0)=>some (.ptr k o,(i,0) :: hs,(k,⟨.own e,cs⟩) :: m0)
      | none=>none
    | _=>none
  | d+1,k,.agg l=>match canC (canV m d) k l with
    | some (l',hs,m0)=>some (.agg l',hs,m0)
    | none=>none
  | d+1,k,.fn f xs bs=>match canC (canV m d) k xs with
    | some (xs',hs,m0)=>match canC (canV m d) (k+hs.length) bs with
      | some (bs',hs',m0')=>some (.fn f xs' bs',hs++hs',m0++m0')
      | none=>none
    | none=>none
  | _+1,_,.int kd n=>some (.int kd n,[],[])
  | _+1,_,.bool b=>some (.bool b,[],[])
  | _+1,_,.str s=>some (.str s,[],[])
  | _+1,_,.val v=>some (.val v,[],[])
  | _+1,_,.gp g o=>some (.gp g o,[],[])
  | _+1,_,_=>none

structure CanOk (m:Mem) (k n:Nat) (hs:List (Nat × Nat)) (m0:Mem) (all:List (Nat × Nat)):Prop where
  len:m0.length=hs.length
  com:compat (eta all n) m m0
  key:∀ (j:Nat) x,m0[j]?=some x→x.1=k+j

def At (all hs:List (Nat × Nat)) (k:Nat):Prop:=∀ j,j < hs.length→all[k+j]?=hs[j]?

theorem At.left {all a b:List (Nat × Nat)} {k:Nat} (h:At all (a++b) k):At all a k:=fun j hj=>by
  rw [h j (by simp;omega),List.getElem?_append_left hj]
theorem At.right {all a b:List (Nat × Nat)} {k:Nat} (h:At all (a++b) k):At all b (k+a.length):=fun j hj=>by
  have:=h (a.length+j) (by simp;omega)
  rw [List.getElem?_append_right (by omega),Nat.add_sub_cancel_left] at this
  rw [← this,Nat.add_assoc]

theorem compat_app {η:Nat→Nat × Nat} {m:Mem}:∀ {a b:Mem},compat η m a→compat η m b→compat η m (a++b)
  | [],b,_,h=>h
  | x :: a,b,h,h'=>by
    obtain ⟨i,B⟩:=x
    simp only [List.cons_append,compat] at h ⊢
    exact ⟨h.1,compat_app h.2 h'⟩

theorem CanOk.app {m:Mem} {k n:Nat} {hs hs':List (Nat × Nat)} {m0 m0':Mem} {all:List (Nat × Nat)} (h:CanOk m k n hs m0 all) (h':CanOk m (k+hs.length) n hs' m0' all) :
    CanOk m k n (hs++hs') (m0++m0') all where
  len:=by simp [h.len,h'.len]
  com:=compat_app h.com h'.com
  key:=fun j x hx=>by
    by_cases hj:j < m0.length
    · rw [List.getElem?_append_left hj] at hx;exact h.key j x hx
    · rw [List.getElem?_append_right (by omega)] at hx
      have:=h'.key _ x hx
      have:=h.len
      omega

theorem CanOk.nil {m:Mem} {k n:Nat} {all:List (Nat × Nat)}:CanOk m k n [] [] all:=⟨rfl,trivial,by simp⟩

def CanF (m:Mem) (n:Nat) (f:Nat→SV→CanR SV):Prop:=∀ k a a' hs m0,f k a=some (a',hs,m0)→∀ all,At all hs k→a'.ren (eta all n)=a∧CanOk m k n hs m0 all

theorem canLW_ok {m:Mem} {n:Nat} {f:Nat→SV→CanR SV} (hf:CanF m n f):∀ {l:List SV} {k:Nat} {l':List SV} {hs:List (Nat × Nat)} {m0:Mem},canLW f k l=some (l',hs,m0) →
    ∀ all,At all hs k→SV.renL (eta all n) l'=l∧CanOk m k n hs m0 all
  | [],k,l',hs,m0,h,all,ha=>by simp only [canLW] at h;cases h;exact ⟨by simp only [SV.renL],.nil⟩
  | a :: l,k,l',hs,m0,h,all,ha=>by
    simp only [canLW] at h
    split at h
    · rename_i a1 hs1 m1 h1
      split at h
      · rename_i l2 hs2 m2 h2
        cases h
        obtain ⟨e1,k1⟩:=hf _ _ _ _ _ h1 all ha.left
        obtain ⟨e2,k2⟩:=canLW_ok hf h2 all ha.right
        exact ⟨by simp only [SV.renL,e1,e2],k1.app k2⟩
      · cases h
    · cases h
theorem canC_ok {m:Mem} {n:Nat} {f:Nat→SV→CanR SV} (hf:CanF m n f) {l:List SV} {k:Nat} {l':List SV} {hs:List (Nat × Nat)} {m0:Mem} (h:canC f k l=some (l',hs,m0)) :
    ∀ all,At all hs k→SV.renL (eta all n) l'=l∧CanOk m k n hs m0 all:=by
  intro all ha
  unfold canC at h
  split at h
  · rename_i hfl
    cases h
    exact ⟨SV.flatL_ren _ _ hfl,.nil⟩
  · exact canLW_ok hf h all ha

theorem eta_at {all hs:List (Nat × Nat)} {k n:Nat} {h:Nat × Nat} (ha:At all (h :: hs) k):eta all n k=h:=by
  have h0:=ha 0 (by simp)
  simp only [Nat.add_zero,List.getElem?_cons_zero] at h0
  unfold eta;rw [h0];rfl
theorem At.tail {all hs:List (Nat × Nat)} {k:Nat} {h:Nat × Nat} (ha:At all (h :: hs) k):At all hs (k+1):=fun j hj=>by
  have:=ha (j+1) (by simp;omega)
  rw [List.getElem?_cons_succ] at this
  rw [← this,show k+1+j=k+(j+1) by omega]
theorem CanOk.cons {m:Mem} {k n:Nat} {hs:List (Nat × Nat)} {m0:Mem} {all:List (Nat × Nat)} {h:Nat × Nat} {B:Blk} (hc:CanOk m (k+1) n hs m0 all)
    (hB:∃ D,rd m (eta all n k).1=some D ∧
      match B.kind with
      | .view=>(eta all n k).2+B.cells.length≤D.cells.length∧SV.renL (eta all n) B.cells=(D.cells.drop (eta all n k).2).take B.cells.length
      | _=>(eta all n k).2=0∧D.kind=B.kind∧D.cells=SV.renL (eta all n) B.cells):CanOk m k n (h :: hs) ((k,B) :: m0) all where
  len:=by simp [hc.len]
  com:=⟨hB,hc.com⟩
  key:=fun j x hx=>by
    cases j with
    | zero=>simp at hx;rw [← hx];rfl
    | succ j=>have:=hc.key j x (by simpa using hx);omega

theorem canV_ok {m:Mem} {n:Nat}:∀ d,CanF m n (canV m d)
  | 0=>fun k a a' hs m0 h=>by simp [canV] at h
  | d+1=>fun k a a' hs m0 h all ha=>by
    have ih:=canV_ok (m:=m) (n:=n) d
    cases a with
    | slc i o s len cap=>
      simp only [canV] at h
      split at h
      · rename_i B hB
        split at h
        · rename_i hle
          split at h
          · rename_i cs hs1 m1 hc
            cases h
            obtain ⟨e1,k1⟩:=canC_ok ih hc all ha.tail
            have he:eta all n k=(i,o):=eta_at ha
            have hl:cs.length=len * s:=by
              have:=congrArg List.length e1
              rw [SV.renL_eq] at this
              simp at this;omega
            refine ⟨by simp only [SV.ren,he,Nat.add_zero],k1.cons ⟨B,by rw [he];exact hB,?_⟩⟩
            rw [he]
            exact ⟨by rw [hl];exact hle,by rw [hl];exact e1⟩
          · cases h
        · cases h
      · cases h
    | ptr i o=>
      simp only [canV] at h
      split at h
      · rename_i e cells hB
        split at h
        · rename_i cs hs1 m1 hc
          cases h
          obtain ⟨e1,k1⟩:=canC_ok ih hc all ha.tail
          have he:eta all n k=(i,0):=eta_at ha
          refine ⟨by simp only [SV.ren,he,Nat.zero_add],k1.cons ⟨_,by rw [he];exact hB,?_⟩⟩
          rw [he]
          exact ⟨rfl,rfl,e1.symm⟩
        · cases h
      · cases h
    | agg l=>
      simp only [canV] at h
      split at h
      · rename_i l' hs1 m1 hc
        cases h
        obtain ⟨e1,k1⟩:=canC_ok ih hc all ha
        exact ⟨by simp only [SV.ren,e1],k1⟩
      · cases h
    | fn f xs bs=>
      simp only [canV] at h
      split at h
      · rename_i l' hs1 m1 hc
        split at h
        · rename_i l2 hs2 m2 hc2
          cases h
          obtain ⟨e1,k1⟩:=canC_ok ih hc all ha.left
          obtain ⟨e2,k2⟩:=canC_ok ih hc2 all ha.right
          exact ⟨by simp only [SV.ren,e1,e2],k1.app k2⟩
        · cases h
      · cases h
    | int kd x=>simp only [canV] at h;cases h;exact ⟨by simp only [SV.ren],.nil⟩
    | bool x=>simp only [canV] at h;cases h;exact ⟨by simp only [SV.ren],.nil⟩
    | str x=>simp only [canV] at h;cases h;exact ⟨by simp only [SV.ren],.nil⟩
    | val x=>simp only [canV] at h;cases h;exact ⟨by simp only [SV.ren],.nil⟩
    | gp g o=>simp only [canV] at h;cases h;exact ⟨by simp only [SV.ren],.nil⟩
    | any=>simp only [canV] at h;cases h
    | tup l=>simp only [canV] at h;cases h
    | mp i=>simp only [canV] at h;cases h

def apH1 (t:Nat) (o:Bool):List (Nat × Nat)→Mem→Prop
  | h :: hs,(_,B) :: r=>((o || B.kind.isOwn)=true→t≠h.1)∧apH1 t o hs r
  | _,_=>True
def apH:List (Nat × Nat)→Mem→Prop
  | h :: hs,(_,B) :: r=>apH1 h.1 B.kind.isOwn hs r∧apH hs r
  | _,_=>True
theorem apH1_get {t:Nat} {o:Bool}:∀ {hs:List (Nat × Nat)} {m:Mem},apH1 t o hs m→∀ (j:Nat) h x,hs[j]?=some h→m[j]?=some x→(o || x.2.kind.isOwn)=true→t≠h.1
  | h :: hs,(i,B) :: r,ha,j,h',x,h1,h2,ho=>by
    simp only [apH1] at ha
    cases j with
    | zero=>simp at h1 h2;subst h1;subst h2;exact ha.1 ho
    | succ j=>exact apH1_get ha.2 j h' x (by simpa using h1) (by simpa using h2) ho
  | [],_,_,j,h',x,h1,_,_=>by simp at h1
  | _ :: _,[],_,j,h',x,_,h2,_=>by simp at h2
theorem apartM_of {all:List (Nat × Nat)} {n:Nat}:∀ {hs:List (Nat × Nat)} {m:Mem} {k:Nat},At all hs k→m.length=hs.length→(∀ (j:Nat) x,m[j]?=some x→x.1=k+j)→apH hs m→apartM (eta all n) m
  | _,[],_,_,_,_,_=>trivial
  | [],_ :: _,_,_,h,_,_=>by simp at h
  | h :: hs,(i,B) :: r,k,ha,hl,hk,hap=>by
    simp only [apH] at hap
    have hi:i=k:=by have:=hk 0 _ rfl;simpa using this
    subst hi
    refine ⟨fun x hx ho=>?_,apartM_of ha.tail (by simpa using hl) (fun j x hx=>by have:=hk (j+1) x (by simpa using hx);omega) hap.2⟩
    obtain ⟨j,hj,hxj⟩:=List.mem_iff_getElem.1 hx
    have hxj':r[j]?=some x:=by rw [List.getElem?_eq_getElem hj,hxj]
    have hjh:j < hs.length:=by simp at hl;omega
    have hxk:x.1=i+1+j:=by have:=hk (j+1) x (by simpa using hxj');omega
    rw [eta_at ha,hxk]
    have:all[i+1+j]?=hs[j]?:=ha.tail j hjh
    unfold eta
    rw [this,List.getElem?_eq_getElem hjh]
    exact apH1_get hap.1 j hs[j] x (List.getElem?_eq_getElem hjh) hxj' ho

theorem keysBelow_of {k:Nat}:∀ {m0:Mem},(∀ i B,(i,B) ∈ m0→i < k)→keysBelow k m0
  | [],_=>trivial
  | (i,B) :: r,h=>by
    simp only [keysBelow]
    exact ⟨h i B List.mem_cons_self,keysBelow_of fun j B' hj=>h j B' (List.mem_cons_of_mem _ hj)⟩
theorem zeroSh_of {η:Nat→Nat × Nat}:∀ {m1:Mem},(∀ i B,(i,B) ∈ m1→B.own→(η i).2=0)→zeroSh η m1
  | [],_=>trivial
  | (i,B) :: r,h=>by
    simp only [zeroSh]
    exact ⟨fun ho=>h i B List.mem_cons_self (isOwn_own ho),zeroSh_of fun j B' hj=>h j B' (List.mem_cons_of_mem _ hj)⟩

abbrev GS:=List SV→Mem→Option (SV × Mem × Nat)
def freshB (k:Nat) (m0:Mem):Mem→Prop
  | []=>True
  | (i,B) :: r=>(k≤i∨∃ B',(i,B') ∈ m0∧B'.own)∧freshB k m0 r
theorem freshB_get {k:Nat} {m0:Mem}:∀ {m1:Mem},freshB k m0 m1→∀ i B,(i,B) ∈ m1→k≤i∨∃ B',(i,B') ∈ m0∧B'.own
  | (j,D) :: r,h,i,B,hi=>by
    simp only [freshB] at h
    rcases List.mem_cons.1 hi with e | e
    · cases e;exact h.1
    · exact freshB_get h.2 i B e
def FunS (P:Program) (T:List (Nat × List SV)) (f:FuncId) (g:GS):Prop:=
  ∀ a0 m0 r m1 n1,g a0 m0=some (r,m1,n1)→Fun P T f a0 m0 m0.length r m1 n1∧freshB m0.length m0 m1

def belowL (n:Nat):List (Nat × Nat)→Prop
  | []=>True
  | h :: r=>h.1 < n∧belowL n r
theorem belowL_mem {n:Nat}:∀ {hs:List (Nat × Nat)},belowL n hs→∀ h ∈ hs,h.1 < n
  | x :: r,hb,h,hm=>by
    simp only [belowL] at hb
    rcases List.mem_cons.1 hm with e | e
    · rw [e];exact hb.1
    · exact belowL_mem hb.2 h e

def callS (S:List (FuncId × GS)) (c:CallT):CallT:=fun f args m n K=>
  match lookF S f with
  | some g=>(match canLW (canV m 4) 0 args with
    | some (a0,hs,m0)=>belowL n hs∧apH hs m0∧(match g a0 m0 with
      | some (r0,m1,n1)=>K (r0.ren (eta hs n)) (newOwn (eta hs n) m1++rms m (targets (eta hs n) m0)) (n+(n1 - hs.length))
      | none=>False)
    | none=>False)
  | none=>c f args m n K
theorem u_callS {S:List (FuncId × GS)} {c:CallT} {f:FuncId} {args:List SV} {m:Mem} {n:Nat} {K:Kt}:callS S c f args m n K=(match lookF S f with
  | some g=>(match canLW (canV m 4) 0 args with
    | some (a0,hs,m0)=>belowL n hs∧apH hs m0∧(match g a0 m0 with
      | some (r0,m1,n1)=>K (r0.ren (eta hs n)) (newOwn (eta hs n) m1++rms m (targets (eta hs n) m0)) (n+(n1 - hs.length))
      | none=>False)
    | none=>False)
  | none=>c f args m n K):=(rfl)

theorem callS_one {P:Program} {T:List (Nat × List SV)} {f:FuncId} {g:GS} (hg:FunS P T f g) {args:List SV} {m:Mem} {n:Nat} {K:Kt} {a0:List SV} {hs:List (Nat × Nat)} {m0:Mem} {r0:SV} {m1:Mem} {n1:Nat}
    (hcan:canLW (canV m 4) 0 args=some (a0,hs,m0)) (hb:belowL n hs) (hap:apH hs m0) (hr:g a0 m0=some (r0,m1,n1))
    (hK:K (r0.ren (eta hs n)) (newOwn (eta hs n) m1++rms m (targets (eta hs n) m0)) (n+(n1 - hs.length))):callT P T f args m n K:=by
  obtain ⟨F,hnew⟩:=hg _ _ _ _ _ hr
  have hat:At hs hs 0:=fun j hj=>by rw [Nat.zero_add]
  obtain ⟨e1,k1⟩:=canLW_ok (canV_ok (m:=m) (n:=n) 4) hcan hs hat
  rw [k1.len] at F hnew
  refine ⟨hs,a0,m0,r0,m1,n1,F,e1.symm,k1.com,apartM_of hat k1.len k1.key hap,keysBelow_of fun i B hi=>?_,belowL_mem hb,zeroSh_of fun i B hi ho=>?_,hK⟩
  · obtain ⟨j,hj,hxj⟩:=List.mem_iff_getElem.1 hi
    have:=k1.key j _ (by rw [List.getElem?_eq_getElem hj,hxj])
    have:=k1.len
    simp only at *
    omega
  · rcases freshB_get hnew i B hi with h | ⟨B',h,ho'⟩
    · rw [eta_ge h]
    · exact (compat_own k1.com h ho').choose_spec.2.1

theorem callS_ok {P:Program} {T:List (Nat × List SV)} {S:List (FuncId × GS)} {c:CallT} (hS:∀ x ∈ S,FunS P T x.1 x.2) (hc:∀ f a m n K,c f a m n K→callT P T f a m n K) :
    ∀ f a m n K,callS S c f a m n K→callT P T f a m n K:=by
  intro f args m n K h
  unfold callS at h
  split at h
  · rename_i g hg
    split at h
    · rename_i a0 hs m0 hcan
      obtain ⟨hb,hap,h⟩:=h
      split at h
      · rename_i r0 m1 n1 hr
        exact callS_one (hS _ (lookF_mem hg)) hcan hb hap hr h
      · exact h.elim
    · exact h.elim
  · exact hc _ _ _ _ _ h

def finE (T:List (Nat × List SV)) (n0:Nat) (res:List RV) (r:SV) (m':Mem) (n':Nat):Post:=fun e fr m n=>
  match e with
  | .exit _=>False
  | _=>evRes T fr res m n fun l m1 n1=>∃ hs,EntM n0 m1 n1 hs m' n'∧retOf l=r.ren (eta hs n1)
section
variable {T:List (Nat × List SV)} {n0:Nat} {res:List RV} {r:SV} {m':Mem} {n':Nat} {fr:Fr} {m:Mem} {n j:Nat}
theorem finE_r:finE T n0 res r m' n' .ret fr m n=evRes T fr res m n fun l m1 n1=>∃ hs,EntM n0 m1 n1 hs m' n'∧retOf l=r.ren (eta hs n1):=(rfl)
theorem finE_n:finE T n0 res r m' n' .normal fr m n=evRes T fr res m n fun l m1 n1=>∃ hs,EntM n0 m1 n1 hs m' n'∧retOf l=r.ren (eta hs n1):=(rfl)
theorem finE_x:finE T n0 res r m' n' (.exit j) fr m n=False:=(rfl)
end
theorem fun_any {P:Program} {T:List (Nat × List SV)} (u:Option Nat) (c1:CallT) (hF:∀ f a m n K,c1 f a m n K→callT P T f a m n K) {f:FuncId} {sf:SF} {args:List SV} {m0:Mem} {n0:Nat} {r:SV} {m':Mem} {n':Nat}
    (hc:chkF P f sf=true) (hlen:args.length≤sf.n) (hn:n0≤n')
    (h:den T c1 (callT P T) u n0 (finE T n0 sf.res r m' n') [.c sf.body] .normal (frOf 0 args) m0 n0):Fun P T f args m0 n0 r m' n':=by
  refine fun_of_exec hc hlen hn (exC_mono (callT_point P T) _ _ _ _ _ _ (exC_of_ev hF (callT_point P T) _ _ _ _ _ h) fun e fr m n h=>?_)
  cases e with
  | normal=>exact exRes_of_ev h
  | exit j=>exact h
  | ret=>exact exRes_of_ev h
end Go.Sx

/- The engine, part Xb: bys as cells. -/
namespace Go.Sx
open Go
set_option linter.unusedSimpArgs false
set_option linter.unusedVariables false
def bys (l:List UInt8):List SV:=l.map SV.byte
theorem map_byte (l:List UInt8):List.map SV.byte l=bys l:=(rfl)
theorem flat_bytes:∀ b:List UInt8,SV.flatL (bys b)=true
  | []=>rfl
  | n :: b=>by simp only [bys,List.map_cons,SV.flatL,SV.byte,SV.flat,Bool.true_and];exact flat_bytes b
theorem ren_bytes (η:Nat→Nat × Nat) (b:List UInt8):SV.renL η (bys b)=bys b:=SV.flatL_ren η _ (flat_bytes b)
theorem len_bytes (b:List UInt8):(bys b).length=b.length:=by simp [bys]
def unB (l:List SV):Option (List UInt8):=match l.all isByte with
  | true=>some (l.map Sx.byteOf)
  | false=>none
theorem isByte_byte (c:UInt8):isByte (SV.byte c)=true:=by
  simp only [isByte,SV.byte,decide_eq_true_eq]
  have:=c.toNat_lt
  omega
theorem byte_cells (c:UInt8):(SV.byte c).cells?=some [SV.byte c]:=(rfl)
theorem one_byte (c:UInt8):[SV.byte c]=bys [c]:=(rfl)
theorem byte_ren (η:Nat→Nat × Nat) (c:UInt8):(SV.byte c).ren η=SV.byte c:=(rfl)
theorem take_bytes (b:List UInt8):List.take b.length (bys b)=bys b:=List.take_of_length_le (by simp [bys])
theorem bytes_app (a b:List UInt8):bys a++bys b=bys (a++b):=by simp [bys]
theorem bytes_app1 (a:List UInt8) (c:UInt8):bys a++[SV.byte c]=bys (a++[c]):=by simp [bys]
theorem byteOf_byte (c:UInt8):Sx.byteOf (SV.byte c)=c:=by simp [Sx.byteOf,SV.byte]
theorem isU8_byte (c:UInt8):isU8 (SV.byte c)=true:=rfl
theorem all_isU8 (b:List UInt8):(bys b).all isU8=true:=by
  simp [bys,List.all_eq_true,isU8_byte]
theorem map_byteOf (b:List UInt8):(bys b).map Sx.byteOf=b:=by
  simp only [bys,List.map_map]
  rw [show (Sx.byteOf ∘ SV.byte)=id from funext byteOf_byte,List.map_id]
theorem unB_bytes (b:List UInt8):unB (bys b)=some b:=by
  have:(bys b).all isByte=true:=by simp [bys,List.all_eq_true,isByte_byte]
  unfold unB
  rw [this,map_byteOf]
theorem byte_of {v:SV} (h:isByte v=true):SV.byte (Sx.byteOf v)=v:=by
  cases v <;> simp only [isByte] at h <;> first | cases h | skip
  rename_i k n
  cases k <;> simp only at h <;> first | cases h | skip
  simp only [decide_eq_true_eq] at h
  simp only [SV.byte,Sx.byteOf]
  congr 1
  have:n.toNat < 256:=by omega
  simp only [UInt8.toNat_ofNat']
  omega
theorem unB_some {l:List SV} {b:List UInt8} (h:unB l=some b):l=bys b:=by
  unfold unB at h
  split at h
  · rename_i ha
    cases h
    simp only [bys,List.map_map]
    rw [List.all_eq_true] at ha
    exact (List.map_id l).symm.trans (List.map_congr_left fun v hv=>(byte_of (ha v hv)).symm)
  · cases h
theorem wrapU8_rng (x:Int):0≤IntKind.u8.wrap x∧IntKind.u8.wrap x < 256:=by
  simp only [IntKind.wrap,IntKind.bits,IntKind.signed]
  simp
  omega
theorem u8_byte {x:Int} (h:0≤x∧x < 256):SV.int .u8 x=SV.byte (UInt8.ofNat x.toNat):=by
  have:=byte_of (v:=.int .u8 x) (by simp only [isByte];exact decide_eq_true h)
  exact this.symm
def flipB (x f:Int):UInt8:=UInt8.ofNat (bitop .xor .u8 x f).toNat
theorem flipB_sv (x f:Int):SV.int .u8 (bitop .xor .u8 x f)=SV.byte (flipB x f):=u8_byte (wrapU8_rng _)
def wrapB (x:Int):UInt8:=UInt8.ofNat (IntKind.u8.wrap x).toNat
theorem wrapB_sv (x:Int):SV.int .u8 (IntKind.u8.wrap x)=SV.byte (wrapB x):=u8_byte (wrapU8_rng _)

theorem wrap64_eq {x:Int} (h1:-9223372036854775808≤x) (h2:x≤9223372036854775807):IntKind.i64.wrap x=x:=wrap64 h1 h2
def cF:CallT:=fun _ _ _ _ _=>False
theorem cF_ok {P:Program} {T:List (Nat × List SV)}:∀ f a m n K,cF f a m n K→callT P T f a m n K:=fun _ _ _ _ _ h=>h.elim
def ints (l:List Int):List SV:=l.map (.int .i64)
theorem flat_ints:∀ b:List Int,SV.flatL (ints b)=true
  | []=>rfl
  | n :: b=>by simp only [ints,List.map_cons,SV.flatL,SV.flat,Bool.true_and];exact flat_ints b
theorem ren_ints (η:Nat→Nat × Nat) (b:List Int):SV.renL η (ints b)=ints b:=SV.flatL_ren η _ (flat_ints b)
theorem len_ints (b:List Int):(ints b).length=b.length:=by simp [ints]
theorem take_ints (b:List Int):List.take b.length (ints b)=ints b:=List.take_of_length_le (by simp [ints])
theorem get_ints {b:List Int} {i:Nat} {x:Int} (h:b[i]?=some x):(ints b)[i]?=some (.int .i64 x):=by simp [ints,h]
theorem get_bys {b:List UInt8} {i:Nat} {x:UInt8} (h:b[i]?=some x):(bys b)[i]?=some (SV.byte x):=by simp [bys,h]
theorem get_bysI {b:List UInt8} {i:Nat} {x:UInt8} (h:b[i]?=some x):(bys b)[i]?=some (.int .u8 (x.toNat:Int)):=get_bys h
theorem byte_I (x:UInt8):SV.int .u8 (x.toNat:Int)=SV.byte x:=(rfl)
theorem take_succ_rev {b:List UInt8} {i:Nat} {x:UInt8} (hi:i≠0) (h:b[i - 1]?=some x):(b.take i).reverse=x :: (b.take (i - 1)).reverse:=by
  obtain ⟨j,rfl⟩:∃ j,i=j+1:=⟨i - 1,by omega⟩
  simp only [Nat.add_sub_cancel] at h ⊢
  rw [List.take_add_one,h]
  simp
def CapOk (cap:Option Nat) (len:Nat):Prop:=∀ c,cap=some c→len≤c
def capB:Option Nat→Nat→Bool
  | none,_=>true
  | some c,n=>Nat.ble n c
theorem capB_ok {cap:Option Nat} {n:Nat} (h:capB cap n=true):CapOk cap n:=by
  intro c hc
  subst hc
  exact Nat.le_of_ble_eq_true h
def nlS (i s:Nat):Nat→SV
  | 0=>.val (.slice none 0 0)
  | k+1=>.slc i 0 s (k+1) none
def nlM (i:Nat) (e:TypeId) (cells:List SV) (m:Mem):Nat→Mem
  | 0=>m
  | _+1=>(i,⟨.own e,cells⟩) :: m
def nlN (i:Nat):Nat→Nat
  | 0=>i
  | _+1=>i+1
section
variable {i s k:Nat} {e:TypeId} {cells:List SV} {m:Mem}
theorem nlS_0:nlS i s 0=.val (.slice none 0 0):=(rfl)
theorem nlS_1:nlS i s (k+1)=.slc i 0 s (k+1) none:=(rfl)
theorem nlM_0:nlM i e cells m 0=m:=(rfl)
theorem nlM_1:nlM i e cells m (k+1)=(i,⟨.own e,cells⟩) :: m:=(rfl)
theorem nlN_0:nlN i 0=i:=(rfl)
theorem nlN_1:nlN i (k+1)=i+1:=(rfl)
end
theorem take_bys1 (c:UInt8) (l:List UInt8):List.take (l.length+1) (bys (c :: l))=bys (c :: l):=take_bytes (c :: l)
end Go.Sx

/- The engine, part Ng: the rules for functions, over a text that stands once. -/
namespace Go.Sx
open Go
set_option linter.unusedSimpArgs false
set_option linter.unusedVariables false
theorem u8lit (n:Nat) (h:n < 2 ^ 8):(⟨⟨⟨n,h⟩⟩⟩:UInt8)=UInt8.ofNat n:=by
  apply UInt8.toNat_inj.1
  simp only [UInt8.toNat_ofNat']
  exact (Nat.mod_eq_of_lt h).symm

-- the rules of old, over a text that stands once
def exG (T:List (Nat × List SV)) (c1 c2:CallT) (u:Option Nat) (n0:Nat) (fin:List RV→Post) (s:SF) (fr:Fr) (m:Mem) (n:Nat):Prop:=den T c1 c2 u n0 (fin s.res) [.c s.body] .normal fr m n
section
variable {P:Program} {T:List (Nat × List SV)} {c2:CallT} {f:FuncId} {sf:SF} {args:List SV} {m0 m:Mem} {n0 n:Nat} {r:SV} {m':Mem} {n' k:Nat} {res:List RV} {body:SC} {e:TypeId} {cells cells':List SV} {fin:List RV→Post} {fr:Fr}
theorem exG_mk {u:Option Nat} {c1:CallT}:exG T c1 c2 u n0 fin ⟨k,res,body⟩ fr m n=den T c1 c2 u n0 (fin res) [.c body] .normal fr m n:=(rfl)
theorem fun_pureG (u:Option Nat) (c1:CallT) (hF:∀ f a m n K,c1 f a m n K→callT P T f a m n K) (hc:chkF P f sf=true) (hlen:args.length≤sf.n) (hr:∀ η,r.ren η=r)
    (h:exG T c1 (callT P T) u 0 (fun res=>finP T res r) sf (frOf 0 args) [] 0):Fun P T f args [] 0 r [] 0:=fun_pure u c1 hF hc hlen hr h
theorem fun_valG (u:Option Nat) (c1:CallT) (hF:∀ f a m n K,c1 f a m n K→callT P T f a m n K) (hc:chkF P f sf=true) (hlen:args.length≤sf.n) (hr:∀ η,r.ren η=r)
    (h:exG T c1 (callT P T) u n0 (fun res=>finP T res r) sf (frOf 0 args) m0 n0):Fun P T f args m0 n0 r [] n0:=fun_val u c1 hF hc hlen hr h
theorem fun_anyG (u:Option Nat) (c1:CallT) (hF:∀ f a m n K,c1 f a m n K→callT P T f a m n K) (hc:chkF P f sf=true) (hlen:args.length≤sf.n) (hn:n0≤n')
    (h:exG T c1 (callT P T) u n0 (fun res=>finE T n0 res r m' n') sf (frOf 0 args) m0 n0):Fun P T f args m0 n0 r m' n':=fun_any u c1 hF hc hlen hn h
end
end Go.Sx

/- The engine, part Nw: functions whose text is computed from the model's code; calls by what is known of the function that is called. -/
namespace Go.Sx
open Go
set_option linter.unusedSimpArgs false
set_option linter.unusedVariables false
-- continuations that simp does not enter
def kontA (T:List (Nat × List SV)) (call:CallT) (fr0:Fr) (m0:Mem) (r:List Opr) (done:List Dn) (n:Nat) (d:Option Nat) (K:List Dn→Nat→Prop):Kt:=
  fun v m' n'=>n≤n'∧evA T call fr0 m0 r (done++[⟨d,v,newer n m',n,n'⟩]) n' K
def kontP (K:Kt) (m:Mem) (n:Nat):Kt:=fun v m' n'=>m'=[]∧n'=0∧v.flat=true∧K v m n
section
variable {T:List (Nat × List SV)} {call:CallT} {fr0 fr:Fr} {m0 m m':Mem} {r:List Opr} {done:List Dn} {n n':Nat} {d:Option Nat} {K:List Dn→Nat→Prop} {v:SV} {op:SOp} {ks p h:List Nat} {g:Nat} {b:Bool} {k:Kt}
theorem kontA_app:kontA T call fr0 m0 r done n d K v m' n'=(n≤n'∧evA T call fr0 m0 r (done++[⟨d,v,newer n m',n,n'⟩]) n' K):=(rfl)
theorem evA_0:evA T call fr0 m0 [] done n K=K done n:=(rfl)
theorem evA_n:evA T call fr0 m0 (⟨d,op,none,ks,p,h⟩ :: r) done n K =
    evO T call (frD (pickD done p) (dels fr0 h)) (views (memD (pickD done p) m0)) n (kontA T call fr0 m0 r done n d K) op:=(rfl)
theorem evA_g:evA T call fr0 m0 (⟨d,op,some (g,b),ks,p,h⟩ :: r) done n K =
    (match get (frD (pickD done p) (dels fr0 h)) g with
      | .bool t=>gd t b (evO T call (frD (pickD done p) (dels fr0 h)) (views (memD (pickD done p) m0)) n (kontA T call fr0 m0 r done n d K) op)
          (evA T call fr0 m0 r (done++[⟨d,.val undef,[],n,n⟩]) n K)
      | .val (.tuple _)=>evA T call fr0 m0 r (done++[⟨d,.val undef,[],n,n⟩]) n K
      | _=>False):=(rfl)
theorem u_callK {b:Nat} {B:Blk} {f:FuncId} {args:List SV}:callK (some (b,B)) call f args m n k=(match rd m b with
  | none=>call f args m n k
  | some _=>call f args ((b,B) :: rm m b) n (kontK b B k)):=(rfl)
theorem kontK_app {b:Nat} {B:Blk}:kontK b B k v m n=(rd m b=some B∧k v (rm m b) n):=(rfl)
theorem u_onKept {t:Nat} {F:Nat→Blk→Prop}:onKept fr m t F=(match get fr t with
  | .ptr b 0=>match rd m b with
    | some ⟨.own e,cells⟩=>SV.flatL cells=true∧uniqB b ⟨.own e,cells⟩ m∧F b ⟨.own e,cells⟩
    | _=>False
  | _=>False):=(rfl)
theorem kontP_app:kontP k m n v m' n'=(m'=[]∧n'=0∧v.flat=true∧k v m n):=(rfl)
theorem e_callpK {f:FuncId} {args:List Opd}:evO T call fr m n k (.callp f args)=(SV.flatL (args.map (·.ev fr))=true∧call f (args.map (·.ev fr)) [] 0 (kontP k m n)):=(rfl)
end
theorem splice_0n {l:List SV}:splice l 0 []=l:=by simp [splice]
theorem splice_0c {a x:SV} {l d:List SV}:splice (a :: l) 0 (x :: d)=x :: splice l 0 d:=by simp [splice]
theorem splice_cs {a:SV} {l d:List SV} {n:Nat}:splice (a :: l) (n+1) d=a :: splice l n d:=by simp [splice,Nat.add_right_comm]
theorem splice_allE {a b:List SV} (h:b.length=a.length):splice a 0 b=b:=by
  unfold splice
  simp [h]
theorem take_bysE {n:Nat} {b:List UInt8} (h:b.length=n):List.take n (bys b)=bys b:=List.take_of_length_le (by rw [len_bytes];omega)
def chkM (P:Program) (f:FuncId) (fn:Func) (k:Nat):Bool:=chkF P f (mkSF P fn) && Nat.ble k fn.ntmps
theorem chkM_ok {P:Program} {f:FuncId} {fn:Func} {k:Nat} (h:chkM P f fn k=true):chkF P f (mkSF P fn)=true∧k≤(mkSF P fn).n:=by
  unfold chkM at h
  simp only [Bool.and_eq_true,Nat.ble_eq] at h
  exact h
def exF (P:Program) (T:List (Nat × List SV)) (s:SF) (args:List SV) (m0:Mem) (n0:Nat) (r:SV) (m':Mem) (n':Nat):Prop:=
  den T (callT P T) (callT P T) none n0 (finE T n0 s.res r m' n') [.c s.body] .normal (frOf 0 args) m0 n0
def exV (P:Program) (T:List (Nat × List SV)) (s:SF) (args:List SV) (m0:Mem) (n0:Nat) (r:SV):Prop:=
  den T (callT P T) (callT P T) none n0 (finP T s.res r) [.c s.body] .normal (frOf 0 args) m0 n0
def exB (P:Program) (T:List (Nat × List SV)) (s:SF) (args:List SV) (r:SV) (e:TypeId) (cells cells':List SV):Prop:=
  den T (callT P T) (callT P T) none 1 (finO T s.res r e cells') [.c s.body] .normal (frOf 0 (.ptr 0 0 :: args)) [(0,⟨.own e,cells⟩)] 1
section
variable {P:Program} {T:List (Nat × List SV)} {f:FuncId} {args:List SV} {m0:Mem} {n0:Nat} {r:SV} {m':Mem} {n' k:Nat} {res:List RV} {body:SC} {e:TypeId} {cells cells':List SV}
theorem exF_mk:exF P T ⟨k,res,body⟩ args m0 n0 r m' n'=den T (callT P T) (callT P T) none n0 (finE T n0 res r m' n') [.c body] .normal (frOf 0 args) m0 n0:=(rfl)
theorem exV_mk:exV P T ⟨k,res,body⟩ args m0 n0 r=den T (callT P T) (callT P T) none n0 (finP T res r) [.c body] .normal (frOf 0 args) m0 n0:=(rfl)
theorem exB_mk:exB P T ⟨k,res,body⟩ args r e cells cells'=den T (callT P T) (callT P T) none 1 (finO T res r e cells') [.c body] .normal (frOf 0 (.ptr 0 0 :: args)) [(0,⟨.own e,cells⟩)] 1:=(rfl)
theorem funM (fn:Func) (hc:chkM P f fn args.length=true) (hn:n0≤n') (h:exF P T (mkSF P fn) args m0 n0 r m' n'):Fun P T f args m0 n0 r m' n':=
  fun_any none (callT P T) (fun _ _ _ _ _ h=>h) (chkM_ok hc).1 (chkM_ok hc).2 hn h
theorem funV (fn:Func) (hc:chkM P f fn args.length=true) (hr:∀ η,r.ren η=r) (h:exV P T (mkSF P fn) args m0 n0 r):Fun P T f args m0 n0 r [] n0:=
  fun_val none (callT P T) (fun _ _ _ _ _ h=>h) (chkM_ok hc).1 (chkM_ok hc).2 hr h
theorem callP {m:Mem} {n:Nat} {K:Kt} (F:Fun P T f args [] 0 r [] 0) (h:SV.flatL (r :: args)=true∧K r m n):callT P T f args m n K:=by
  have hf:r.flat=true∧SV.flatL args=true:=by simpa only [SV.flatL,Bool.and_eq_true] using h.1
  refine ⟨[],args,[],r,[],0,F,(SV.flatL_ren _ _ hf.2).symm,trivial,trivial,trivial,by simp,trivial,?_⟩
  rw [SV.flat_ren _ _ hf.1]
  exact h.2
theorem callN {a0:List SV} {m1 m:Mem} {n1 n:Nat} {K:Kt} (hs:List (Nat × Nat)) (F:Fun P T f a0 m0 k r m1 n1)
    (h:k=hs.length∧args=SV.renL (eta hs n) a0∧compat (eta hs n) m m0∧apartM (eta hs n) m0∧keysBelow k m0∧belowL n hs∧zeroSh (eta hs n) m1 ∧
      K (r.ren (eta hs n)) (newOwn (eta hs n) m1++rms m (targets (eta hs n) m0)) (n+(n1 - k))):callT P T f args m n K:=by
  obtain ⟨rfl,h1,h2,h3,h4,h5,h6,h7⟩:=h
  exact ⟨hs,a0,m0,r,m1,n1,F,h1,h2,h3,h4,belowL_mem h5,h6,h7⟩
end
end Go.Sx

/- The engine, part Mo: more tables do no harm. -/
namespace Go.Sx
open Go
theorem Fun.more {P:Program} {T T':List (Nat × List SV)} (hT:∀ x ∈ T,x ∈ T') {f:FuncId} {args:List SV} {m:Mem} {n:Nat} {r:SV} {m1:Mem} {n1:Nat} (F:Fun P T f args m n r m1 n1):Fun P T' f args m n r m1 n1:=by
  refine ⟨F.fok,F.le,fun ρ w vals R X hv=>(F.run ρ w vals ?_ ?_ hv).mono ?_⟩
  · exact ⟨R.blk,R.apart,R.fresh,R.wrt,R.size,R.frame,R.keep,R.side⟩
  · exact ⟨fun g cs h=>X.tab g cs (hT _ h),fun g cs h=>X.nwr g cs (hT _ h)⟩
  · rintro e w' ⟨x,ρ',h1,h2,h3,R'⟩
    exact ⟨x,ρ',h1,h2,h3,⟨R'.blk,R'.apart,R'.fresh,R'.wrt,R'.size,R'.frame,R'.keep,R'.side⟩⟩
theorem FunS.more {P:Program} {T T':List (Nat × List SV)} (hT:∀ x ∈ T,x ∈ T') {f:FuncId} {g:GS} (F:FunS P T f g):FunS P T' f g:=fun a0 m0 r m1 n1 h=>
  ⟨((F a0 m0 r m1 n1 h).1).more hT,(F a0 m0 r m1 n1 h).2⟩
end Go.Sx

/- The engine, part Nk: functions in which a region of open order calls functions that write one block and leave it as it was. -/
namespace Go.Sx
open Go
set_option linter.unusedSimpArgs false
set_option linter.unusedVariables false
def chkK (P:Program) (f:FuncId) (fn:Func) (t k:Nat):Bool:=chkF P f ((mkSF P fn).keep t) && Nat.ble k fn.ntmps
theorem chkK_ok {P:Program} {f:FuncId} {fn:Func} {t k:Nat} (h:chkK P f fn t k=true):chkF P f ((mkSF P fn).keep t)=true∧k≤((mkSF P fn).keep t).n:=by
  unfold chkK at h
  simp only [Bool.and_eq_true,Nat.ble_eq] at h
  exact h
section
variable {P:Program} {T:List (Nat × List SV)} {f:FuncId} {args:List SV} {m0:Mem} {n0:Nat} {r:SV} {m':Mem} {n':Nat}
theorem funVk (t:Nat) (fn:Func) (hc:chkK P f fn t args.length=true) (hr:∀ η,r.ren η=r) (h:exV P T ((mkSF P fn).keep t) args m0 n0 r):Fun P T f args m0 n0 r [] n0:=
  fun_val none (callT P T) (fun _ _ _ _ _ h=>h) (chkK_ok hc).1 (chkK_ok hc).2 hr h
end
end Go.Sx
