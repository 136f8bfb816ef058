/- The proof, part Ud: the texts EngRa, EngRb, EngRc, EngRd. -/
import Derived.Test.YtkfbkooobfepeaaGreatDoorUc
set_option linter.unusedSimpArgs false
set_option linter.unusedVariables false
/- The engine, part Ra: a runner that the kernel can carry out: operations. -/
namespace Go.Sx
open Go
set_option linter.unusedSimpArgs false
set_option linter.unusedVariables false
abbrev R3:=SV × Mem × Nat
abbrev RunF:=FuncId→List SV→Mem→Nat→Option R3

def fillR (fr:Fr):List SV→List (Nat × Nat × Opd)→Option (List SV)
  | cs,[]=>some cs
  | cs,(off,size,x) :: r=>match (x.ev fr).cells? with
    | some l=>if l.length=size then if off+size≤cs.length then fillR fr (splice cs off l) r else none else none
    | none=>none

def runBinI (op:BinOp) (k k':IntKind) (a b:Int):Option SV:=
  match op with
  | .shl=>if 0≤b then some (.int k (k.wrap (a * 2 ^ (min b.toNat k.bits)))) else none
  | .shr=>if 0≤b then some (.int k (a.fdiv (2 ^ (min b.toNat k.bits)))) else none
  | .add=>if k=k' then some (.int k (k.wrap (a+b))) else none
  | .sub=>if k=k' then some (.int k (k.wrap (a - b))) else none
  | .mul=>if k=k' then some (.int k (k.wrap (a * b))) else none
  | .quo=>if k=k' then if b≠0 then some (.int k (k.wrap (a.tdiv b))) else none else none
  | .rem=>if k=k' then if b≠0 then some (.int k (a.tmod b)) else none else none
  | .and=>if k=k' then some (.int k (bitop .and k a b)) else none
  | .or=>if k=k' then some (.int k (bitop .or k a b)) else none
  | .xor=>if k=k' then some (.int k (bitop .xor k a b)) else none
  | .andNot=>if k=k' then some (.int k (bitop .andNot k a b)) else none
  | .eql=>if k=k' then some (.bool (a == b)) else none
  | .neq=>if k=k' then some (.bool (a != b)) else none
  | .lss=>if k=k' then some (.bool (decide (a < b))) else none
  | .leq=>if k=k' then some (.bool (decide (a≤b))) else none
  | .gtr=>if k=k' then some (.bool (decide (a > b))) else none
  | .geq=>if k=k' then some (.bool (decide (a ≥ b))) else none

def runBinS (op:BinOp) (a b:List UInt8):Option SV:=
  match op with
  | .add=>if a.length+b.length≤maxStr then some (.str (a++b)) else none
  | .eql=>some (.bool (a == b))
  | .neq=>some (.bool (!(a == b)))
  | .lss=>some (.bool (Op.bytesLess a b))
  | .leq=>some (.bool (Op.bytesLess a b || a == b))
  | .gtr=>some (.bool (!(Op.bytesLess a b || a == b)))
  | .geq=>some (.bool (!(Op.bytesLess a b)))
  | _=>none

def runBin (op:BinOp) (x y:SV):Option SV:=
  match x,y with
  | .int k a,.int k' b=>runBinI op k k' a b
  | .str a,.str b=>runBinS op a b
  | _,_=>none

def optInt (fr:Fr) (x:Option Opd) (d:Int):Option Int:=
  match x with
  | none=>some d
  | some o=>match o.ev fr with
    | .int _ n=>some n
    | _=>none

def srcSlR (m:Mem) (s:Nat) (v:SV):Option (Nat × List SV):=
  match v with
  | .slc i o s' len _=>match rd m i with
    | some B=>if s'=s then if o+len * s≤B.cells.length then some (len,(B.cells.drop o).take (len * s)) else none else none
    | none=>none
  | .val (.slice none 0 0)=>some (0,[])
  | _=>none
def srcOfR (m:Mem) (s:Nat) (v:SV):Option (Nat × List SV):=
  match v with
  | .str t=>if s=1 then some (t.length,t.map SV.byte) else none
  | v=>srcSlR m s v

theorem fillR_ok {fr:Fr}:∀ {ps:List (Nat × Nat × Opd)} {cs r:List SV} {F:List SV→Prop},fillR fr cs ps=some r→F r→fillE fr cs ps F
  | [],cs,r,F,h,hF=>by simp only [fillR] at h;cases h;exact hF
  | (off,size,x) :: ps,cs,r,F,h,hF=>by
    simp only [fillR] at h
    simp only [fillE]
    split at h
    · rename_i l hl
      simp only [hl]
      split at h
      · split at h
        · refine ⟨by assumption,by assumption,fillR_ok h hF⟩
        · cases h
      · cases h
    · cases h

theorem runBin_ok {op:BinOp} {x y v:SV} {F:SV→Prop} (h:runBin op x y=some v) (hF:F v):binV op x y F:=by
  unfold runBin at h
  unfold binV
  split at h
  · unfold runBinI at h
    unfold binI
    cases op <;> simp only at h ⊢ <;> (repeat' split at h) <;> first | cases h | skip
    all_goals first
      | exact ⟨by assumption,hF⟩
      | exact ⟨by assumption,by assumption,hF⟩
  · unfold runBinS at h
    unfold binS
    cases op <;> simp only at h ⊢ <;> (repeat' split at h) <;> first | cases h | skip
    all_goals first
      | exact hF
      | exact ⟨by assumption,hF⟩
  · cases h

theorem optInt_ok {fr:Fr} {x:Option Opd} {d i:Int} {F:Int→Prop} (h:optInt fr x d=some i) (hF:F i):onOpt fr x d F:=by
  unfold optInt at h
  unfold onOpt
  split at h
  · cases h;exact hF
  · simp only [onInt]
    split at h
    · rename_i he;cases h;simp only [he];exact hF
    · cases h

theorem srcSlR_ok {m:Mem} {s:Nat} {v:SV} {k:Nat} {l:List SV} {F:Nat→List SV→Prop} (h:srcSlR m s v=some (k,l)) (hF:F k l):srcSlE m s v F:=by
  unfold srcSlR at h
  unfold srcSlE
  split at h
  · split at h
    · rename_i hB
      simp only [hB]
      split at h
      · split at h
        · cases h;exact ⟨by assumption,by assumption,hF⟩
        · cases h
      · cases h
    · cases h
  · cases h;exact hF
  · cases h
theorem srcOfR_ok {m:Mem} {s:Nat} {v:SV} {k:Nat} {l:List SV} {F:Nat→List SV→Prop} (h:srcOfR m s v=some (k,l)) (hF:F k l):srcOfE m s v F:=by
  unfold srcOfR at h
  unfold srcOfE
  split at h
  · split at h
    · cases h;exact ⟨by assumption,hF⟩
    · cases h
  · rename_i hne
    split
    · exact (hne _ rfl).elim
    · exact srcSlR_ok h hF

def capOkR (m:Mem) (b o len s:Nat) (cap:Option Nat):Bool:=
  match cap with
  | none=>(match rd m b with
    | some B=>Nat.ble (o+len * s) B.cells.length
    | none=>false)
  | some c=>Nat.ble len c

def runO (T:List (Nat × List SV)) (G:RunF) (fr:Fr) (m:Mem) (n:Nat):SOp→Option R3
  | .mv x=>some (x.ev fr,m,n)
  | .pick c a b=>match c.ev fr with
    | .bool true=>some (a.ev fr,m,n)
    | .bool false=>some (b.ev fr,m,n)
    | _=>none
  | .new e z=>some (.ptr n 0,(n,⟨.own e,z⟩) :: m,n+1)
  | .box e x=>match (x.ev fr).cells? with
    | some l=>some (.ptr n 0,(n,⟨.own e,l⟩) :: m,n+1)
    | none=>none
  | .build z parts=>match fillR fr z parts with
    | some cs=>some (.agg cs,m,n)
    | none=>none
  | .bslice e s k z parts=>match fillR fr z parts with
    | some cs=>some (.slc n 0 s k none,(n,⟨.own e,cs⟩) :: m,n+1)
    | none=>none
  | .load agg x=>
    match x.ev fr with
    | .ptr i o=>match rd m i with
      | some B=>match agg with
        | none=>match B.cells[o]? with
          | some v=>some (v,m,n)
          | none=>none
        | some k=>if o+k≤B.cells.length then some (.agg ((B.cells.drop o).take k),m,n) else none
      | none=>none
    | .gp g o=>match lookT T g with
      | some cs=>match agg with
        | none=>match cs[o]? with
          | some v=>some (v,m,n)
          | none=>none
        | some k=>if o+k≤cs.length then some (.agg ((cs.drop o).take k),m,n) else none
      | none=>none
    | _=>none
  | .store k a x=>
    match a.ev fr with
    | .ptr i o=>match rd m i with
      | some ⟨.own e,cells⟩=>match (x.ev fr).cells? with
        | some l=>if l.length=k then if o+k≤cells.length then some (.any,upd m i ⟨.own e,splice cells o l⟩,n) else none else none
        | none=>none
      | _=>none
    | _=>none
  | .nilc x=>
    match x.ev fr with
    | .ptr i o=>some (.ptr i o,m,n)
    | .gp g o=>some (.gp g o,m,n)
    | .fn f a b=>some (.fn f a b,m,n)
    | _=>none
  | .fld x off=>
    match x.ev fr with
    | .ptr i o=>some (.ptr i (o+off),m,n)
    | .gp g o=>some (.gp g (o+off),m,n)
    | _=>none
  | .idxA x i len s=>
    match i.ev fr with
    | .int _ ix=>if 0≤ix then if ix < len then (match x.ev fr with
      | .ptr b o=>some (.ptr b (o+ix.toNat * s),m,n)
      | .gp b o=>some (.gp b (o+ix.toNat * s),m,n)
      | _=>none) else none else none
    | _=>none
  | .idxS x i s=>
    match i.ev fr with
    | .int _ ix=>match x.ev fr with
      | .slc b o s' len _=>match rd m b with
        | some B=>if s'=s then if 0≤ix then if ix < len then if o+ix.toNat * s < B.cells.length then some (.ptr b (o+ix.toNat * s),m,n) else none else none else none else none
        | none=>none
      | _=>none
    | _=>none
  | .idxV x i len s agg=>
    match i.ev fr with
    | .int _ ix=>match x.ev fr with
      | .agg l=>if 0≤ix then if ix < len then (match agg with
        | true=>some (.agg ((l.drop (ix.toNat * s)).take s),m,n)
        | false=>match l[ix.toNat * s]? with
          | some v=>some (v,m,n)
          | none=>none) else none else none
      | _=>none
    | _=>none
  | .idxT x i=>
    match i.ev fr with
    | .int _ ix=>match x.ev fr with
      | .str t=>if 0≤ix then (match t[ix.toNat]? with
        | some c=>some (SV.byte c,m,n)
        | none=>none) else none
      | _=>none
    | _=>none
  | .fieldV x off agg=>
    match x.ev fr with
    | .agg l=>match agg with
      | some k=>some (.agg ((l.drop off).take k),m,n)
      | none=>match l[off]? with
        | some v=>some (v,m,n)
        | none=>none
    | _=>none
  | .bin op x y=>match runBin op (x.ev fr) (y.ev fr) with
    | some v=>some (v,m,n)
    | none=>none
  | .eqv neg pat x y=>
    match x.ev fr,y.ev fr with
    | .agg l,.agg l'=>match eqPat pat l l' with
      | some b=>some (.bool (if neg then !b else b),m,n)
      | none=>none
    | _,_=>none
  | .eqb neg x y=>
    match x.ev fr,y.ev fr with
    | .bool a,.bool c=>some (.bool (if neg then !(a == c) else a == c),m,n)
    | _,_=>none
  | .isNil neg x=>
    match x.ev fr with
    | .val (.slice none 0 0)=>some (.bool (!neg),m,n)
    | .slc b o _ _ _=>match rd m b with
      | some B=>if o < B.cells.length then some (.bool neg,m,n) else none
      | none=>none
    | _=>none
  | .un op x=>
    match op,x.ev fr with
    | .not,.bool b=>some (.bool (!b),m,n)
    | .neg,.int k a=>some (.int k (k.wrap (0 - a)),m,n)
    | .xor,.int k a=>some (.int k (bitop .xor k (if k.signed then -1 else k.max) a),m,n)
    | _,_=>none
  | .conv k x=>
    match x.ev fr with
    | .int _ a=>some (.int k (k.wrap a),m,n)
    | _=>none
  | .strS x=>
    match x.ev fr with
    | .str t=>some (.str t,m,n)
    | _=>none
  | .b2s x=>match srcSlR m 1 (x.ev fr) with
    | some (_,l)=>if l.all isU8=true then some (.str (l.map byteOf),m,n) else none
    | none=>none
  | .s2b e x=>
    match x.ev fr with
    | .str t=>some (.slc n 0 1 t.length none,(n,⟨.own e,t.map SV.byte⟩) :: m,n+1)
    | _=>none
  | .mkfn f first cap=>some (.fn f (first.map (·.ev fr)) (cap.map (·.ev fr)),m,n)
  | .mksl e s bytes z l c=>
    match l.ev fr with
    | .int _ ln=>match c.ev fr with
      | .int _ cp=>if 0≤ln then if ln≤cp then if cp * bytes≤2 ^ 40 then if cp≤2 ^ 40 then
          some (.slc n 0 s ln.toNat none,(n,⟨.own e,rep cp.toNat z⟩) :: m,n+1) else none else none else none else none
      | _=>none
    | _=>none
  | .slcS s x lo hi=>
    match x.ev fr with
    | .slc b o s' len cap=>
      if s'=s then if capOkR m b o len s cap=true then
      match optInt fr lo 0 with
      | some l=>match optInt fr hi len with
        | some h=>if 0≤l then if l≤h then if h≤len then some (.slc b (o+l.toNat * s) s (h.toNat - l.toNat) (cap.map (· - l.toNat)),m,n) else none else none else none
        | none=>none
      | none=>none
      else none else none
    | .val (.slice none 0 0)=>match optInt fr lo 0 with
      | some l=>match optInt fr hi 0 with
        | some h=>if l=0 then if h=0 then some (.val (.slice none 0 0),m,n) else none else none
        | none=>none
      | none=>none
    | _=>none
  | .slcA k s x lo hi=>
    match x.ev fr with
    | .ptr b o=>match optInt fr lo 0 with
      | some l=>match optInt fr hi k with
        | some h=>if 0≤l then if l≤h then if h≤k then some (.slc b (o+l.toNat * s) s (h.toNat - l.toNat) (some (k - l.toNat)),m,n) else none else none else none
        | none=>none
      | none=>none
    | _=>none
  | .slcT x lo hi=>
    match x.ev fr with
    | .str t=>match optInt fr lo 0 with
      | some l=>match optInt fr hi t.length with
        | some h=>if 0≤l then if l≤h then if h≤t.length then some (.str ((t.drop l.toNat).take (h.toNat - l.toNat)),m,n) else none else none else none
        | none=>none
      | none=>none
    | _=>none
  | .arrAt k x=>
    match x.ev fr with
    | .slc b o _ len _=>match rd m b with
      | some B=>if 0 < k then if k≤len then if o < B.cells.length then some (.ptr b o,m,n) else none else none else none
      | none=>none
    | _=>none
  | .ext x i=>
    match x.ev fr with
    | .tup l=>match l[i]? with
      | some v=>some (v,m,n)
      | none=>none
    | _=>none
  | .call f args=>G f (args.map (·.ev fr)) m n
  | .callp f args=>if SV.flatL (args.map (·.ev fr))=true then (match G f (args.map (·.ev fr)) [] 0 with
    | some (v,[],0)=>if v.flat=true then some (v,m,n) else none
    | _=>none) else none
  | .callv x args=>
    match x.ev fr with
    | .fn f first cap=>G f (first++args.map (·.ev fr)++cap) m n
    | _=>none
  | .len isStr x=>
    match isStr,x.ev fr with
    | true,.str t=>some (.int .i64 t.length,m,n)
    | false,.slc _ _ _ l _=>some (.int .i64 l,m,n)
    | false,.val (.slice none 0 0)=>some (.int .i64 0,m,n)
    | _,_=>none
  | .lenA k=>some (.int .i64 k,m,n)
  | .app e s bytes x y=>
    match srcOfR m s (y.ev fr) with
    | some (k,l)=>(match x.ev fr with
      | .slc i o s' len cap=>(match rd m i with
        | some ⟨.own e',cells⟩=>if s'=s then if o=0 then if cap=none then if (len+k) * bytes≤2 ^ 40 then if bytes≤2 ^ 20 then if e'=e then if len * s≤cells.length then
          some (.slc n 0 s (len+k) none,(n,⟨.own e,cells.take (len * s)++l⟩) :: rm m i,n+1) else none else none else none else none else none else none else none
        | _=>none)
      | .val (.slice none 0 0)=>if k * bytes≤2 ^ 40 then if bytes≤2 ^ 20 then some (.slc n 0 s k none,(n,⟨.own e,l⟩) :: m,n+1) else none else none
      | _=>none)
    | none=>none
  | .copy s x y=>
    match srcOfR m s (y.ev fr) with
    | some (k,l)=>(match x.ev fr with
      | .slc i o s' len _=>(match rd m i with
        | some ⟨.own e,cells⟩=>if s'=s then if o+len * s≤cells.length then
          some (.int .i64 (min k len:Nat),upd m i ⟨.own e,splice cells o (l.take (min k len * s))⟩,n) else none else none
        | _=>none)
      | _=>none)
    | none=>none
  | .mkmap a=>some (.mp n,(n,⟨.map a [],[]⟩) :: m,n+1)
  | .mput a x key=>
    match x.ev fr with
    | .mp i=>match keysOf m i with
      | some (a',ks)=>match kvOf a (key.ev fr) with
        | some kv=>if a'=a then some (.any,upd m i ⟨.map a (insK ks kv),[]⟩,n) else none
        | none=>none
      | none=>none
    | _=>none
  | .mlen x=>
    match x.ev fr with
    | .mp i=>match keysOf m i with
      | some (_,ks)=>some (.int .i64 ks.length,m,n)
      | none=>none
    | _=>none
  | .mk8 x=>
    match x.ev fr with
    | .slc i o s len cap=>match rd m i with
      | some ⟨.own e,cells⟩=>if 0 < len then if 0 < cells.length then some (.slc i o s len cap,upd m i ⟨.own e,cells⟩,n) else none else none
      | _=>none
    | _=>none
  | .capN x=>
    match x.ev fr with
    | .val (.slice none 0 0)=>some (.int .i64 0,m,n)
    | _=>none
  | .pcmp _ _ _=>none
  | .cvp _ _ _=>none
  | .noesc _ _=>none
  | .sdat _ _=>none
  | .ustr _ _ _=>none
  | .appZ e s bytes z x k=>
    match k.ev fr with
    | .int _ k=>match x.ev fr with
      | .val (.slice none 0 0)=>if 0 < k then if k * bytes≤2 ^ 40 then if bytes≤2 ^ 20 then some (.slc n 0 s k.toNat none,(n,⟨.own e,rep k.toNat z⟩) :: m,n+1) else none else none else none
      | _=>none
    | _=>none
  | .mx x y=>
    match x.ev fr,y.ev fr with
    | .int k a,.int _ b=>some (.int k (if b > a then b else a),m,n)
    | _,_=>none
  | .mn x y=>
    match x.ev fr,y.ev fr with
    | .int k a,.int _ b=>some (.int k (if b < a then b else a),m,n)
    | _,_=>none

def RunOk (G:RunF) (call:CallT):Prop:=∀ f args m n v m' n' (K:Kt),G f args m n=some (v,m',n')→K v m' n'→call f args m n K

theorem runO_ok {T:List (Nat × List SV)} {G:RunF} {call:CallT} (hG:RunOk G call) {fr:Fr} {m:Mem} {n:Nat} {op:SOp} {v:SV} {m':Mem} {n':Nat} {K:Kt}
    (h:runO T G fr m n op=some (v,m',n')) (hK:K v m' n'):evO T call fr m n K op:=by
  cases op <;> simp only [runO] at h
  case build=>
    split at h
    · cases h;simp only [evO];exact fillR_ok (by assumption) hK
    · cases h
  case bslice=>
    split at h
    · cases h;simp only [evO];exact fillR_ok (by assumption) hK
    · cases h
  case bin=>
    split at h
    · cases h;simp only [evO,exO];exact runBin_ok (by assumption) hK
    · cases h
  case b2s=>
    split at h
    · split at h
      · cases h;simp only [evO];exact srcSlR_ok (by assumption) ⟨by assumption,hK⟩
      · cases h
    · cases h
  case call=>simp only [evO,exO];exact hG _ _ _ _ _ _ _ _ h hK
  case callp=>
    split at h
    · split at h
      · split at h
        · cases h;simp only [evO,exO];exact ⟨by assumption,hG _ _ _ _ _ _ _ _ (by assumption) ⟨rfl,rfl,by assumption,hK⟩⟩
        · cases h
      · cases h
    · cases h
  case callv=>
    simp only [evO,exO]
    split at h
    · rename_i he;simp only [he];exact hG _ _ _ _ _ _ _ _ h hK
    · cases h
  case slcS=>
    simp only [evO]
    split at h
    · rename_i he
      split at h
      · split at h
        · rename_i hc
          split at h
          · split at h
            · split at h
              · split at h
                · split at h
                  · cases h
                    simp only [he]
                    refine ⟨by assumption,?_,optInt_ok (by assumption) (optInt_ok (by assumption) ⟨by assumption,by assumption,by assumption,hK⟩)⟩
                    unfold capOkR at hc
                    split at hc
                    · simp only
                      split at hc
                      · rename_i hB;simp only [hB];exact Nat.le_of_ble_eq_true hc
                      · cases hc
                    · exact Nat.le_of_ble_eq_true hc
                  · cases h
                · cases h
              · cases h
            · cases h
          · cases h
        · cases h
      · cases h
    · rename_i he
      split at h
      · split at h
        · split at h
          · split at h
            · cases h
              simp only [he]
              exact optInt_ok (by assumption) (optInt_ok (by assumption) ⟨by assumption,by assumption,hK⟩)
            · cases h
          · cases h
        · cases h
      · cases h
    · cases h
  case slcA=>
    simp only [evO,exO]
    split at h
    · rename_i he
      split at h
      · split at h
        · split at h
          · split at h
            · split at h
              · cases h;simp only [he];exact optInt_ok (by assumption) (optInt_ok (by assumption) ⟨by assumption,by assumption,by assumption,hK⟩)
              · cases h
            · cases h
          · cases h
        · cases h
      · cases h
    · cases h
  case slcT=>
    simp only [evO,exO]
    split at h
    · rename_i he
      split at h
      · split at h
        · split at h
          · split at h
            · split at h
              · cases h;simp only [he];exact optInt_ok (by assumption) (optInt_ok (by assumption) ⟨by assumption,by assumption,by assumption,hK⟩)
              · cases h
            · cases h
          · cases h
        · cases h
      · cases h
    · cases h
  case app=>
    simp only [evO]
    split at h
    · rename_i hs
      refine srcOfR_ok hs ?_
      split at h
      · rename_i he
        split at h
        · rename_i hB
          simp only [he,hB]
          (repeat' split at h) <;> first | cases h | skip
          exact ⟨by assumption,by assumption,by assumption,by assumption,by assumption,by assumption,by assumption,hK⟩
        · cases h
      · rename_i he
        simp only [he]
        (repeat' split at h) <;> first | cases h | skip
        exact ⟨by assumption,by assumption,hK⟩
      · cases h
    · cases h
  case copy=>
    simp only [evO]
    split at h
    · rename_i hs
      refine srcOfR_ok hs ?_
      split at h
      · rename_i he
        split at h
        · rename_i hB
          simp only [he,hB]
          (repeat' split at h) <;> first | cases h | skip
          exact ⟨by assumption,by assumption,hK⟩
        · cases h
      · cases h
    · cases h
  case pick=>
    simp only [evO,exO,onBool]
    split at h
    · rename_i he;cases h;simp only [he];exact ⟨fun _=>hK,fun h=>by cases h⟩
    · rename_i he;cases h;simp only [he];exact ⟨(fun h=>by cases h),fun _=>hK⟩
    · cases h
  case mx=>
    simp only [evO,exO]
    split at h
    · rename_i h1 h2;cases h;simp only [h1,h2];exact hK
    · cases h
  case mn=>
    simp only [evO,exO]
    split at h
    · rename_i h1 h2;cases h;simp only [h1,h2];exact hK
    · cases h
  all_goals
    first
    | (cases h;simp only [evO,exO];exact hK)
    | (simp only [evO,exO,onInt]
       (repeat' split at h) <;> first | (cases h;done) | (cases h;simp_all))
end Go.Sx

/- The engine, part Rb: a runner that the kernel can carry out: regions, code, functions. -/
namespace Go.Sx
open Go
set_option linter.unusedSimpArgs false
set_option linter.unusedVariables false
def runR (T:List (Nat × List SV)) (G:RunF):List Opr→Fr→Mem→Nat→Option (Fr × Mem × Nat)
  | [],fr,m,n=>some (fr,m,n)
  | o :: r,fr,m,n=>
    match o.guard with
    | none=>match runO T G fr m n o.op with
      | some (v,m',n')=>runR T G r (dels (putO fr o.dst v) o.kill) m' n'
      | none=>none
    | some (g,b)=>
      match get fr g with
      | .bool t=>if t=b then (match runO T G fr m n o.op with
          | some (v,m',n')=>runR T G r (dels (putO fr o.dst v) o.kill) m' n'
          | none=>none) else runR T G r (dels (putO fr o.dst (.val undef)) o.kill) m n
      | .val (.tuple _)=>runR T G r (dels (putO fr o.dst (.val undef)) o.kill) m n
      | _=>none

def runA (T:List (Nat × List SV)) (G:RunF) (fr0:Fr) (m0:Mem):List Opr→List Dn→Nat→Option (List Dn × Nat)
  | [],done,n=>some (done,n)
  | o :: r,done,n=>
    match o.guard with
    | none=>match runO T G (frD (pickD done o.pre) (dels fr0 o.hide)) (views (memD (pickD done o.pre) m0)) n o.op with
      | some (v,m',n')=>if n≤n' then runA T G fr0 m0 r (done++[⟨o.dst,v,newer n m',n,n'⟩]) n' else none
      | none=>none
    | some (g,b)=>
      match get (frD (pickD done o.pre) (dels fr0 o.hide)) g with
      | .bool t=>if t=b then (match runO T G (frD (pickD done o.pre) (dels fr0 o.hide)) (views (memD (pickD done o.pre) m0)) n o.op with
          | some (v,m',n')=>if n≤n' then runA T G fr0 m0 r (done++[⟨o.dst,v,newer n m',n,n'⟩]) n' else none
          | none=>none) else runA T G fr0 m0 r (done++[⟨o.dst,.val undef,[],n,n⟩]) n
      | .val (.tuple _)=>runA T G fr0 m0 r (done++[⟨o.dst,.val undef,[],n,n⟩]) n
      | _=>none

theorem runR_ok {T:List (Nat × List SV)} {G:RunF} {call:CallT} (hG:RunOk G call):∀ {ops:List Opr} {fr:Fr} {m:Mem} {n:Nat} {fr':Fr} {m':Mem} {n':Nat} {K:Fr→Mem→Nat→Prop},
    runR T G ops fr m n=some (fr',m',n')→K fr' m' n'→exR T call ops fr m n K
  | [],fr,m,n,fr',m',n',K,h,hK=>by simp only [runR] at h;cases h;exact hK
  | o :: r,fr,m,n,fr',m',n',K,h,hK=>by
    simp only [runR] at h
    simp only [exR]
    split at h
    · split at h
      · rename_i hg _ v m1 n1 hr
        simp only [hg]
        exact exO_of_ev _ (runO_ok hG hr (runR_ok hG h hK))
      · cases h
    · rename_i g b hg
      simp only [hg]
      split at h
      · rename_i t ht
        simp only [ht]
        split at h
        · rename_i htb
          subst htb
          split at h
          · rename_i v m1 n1 hr
            exact ⟨fun _=>exO_of_ev _ (runO_ok hG hr (runR_ok hG h hK)),fun e=>by cases t <;> cases e⟩
          · cases h
        · rename_i htb
          exact ⟨fun e=>absurd e htb,fun _=>runR_ok hG h hK⟩
      · rename_i vs ht
        simp only [ht]
        exact runR_ok hG h hK
      · cases h

theorem runA_ok {T:List (Nat × List SV)} {G:RunF} {call:CallT} (hG:RunOk G call) {fr0:Fr} {m0:Mem}:∀ {ops:List Opr} {done:List Dn} {n:Nat} {done':List Dn} {n':Nat} {K:List Dn→Nat→Prop},
    runA T G fr0 m0 ops done n=some (done',n')→K done' n'→exA T call fr0 m0 ops done n K
  | [],done,n,done',n',K,h,hK=>by simp only [runA] at h;cases h;exact hK
  | o :: r,done,n,done',n',K,h,hK=>by
    simp only [runA] at h
    simp only [exA]
    split at h
    · split at h
      · rename_i hg _ v m1 n1 hr
        split at h
        · rename_i hle
          simp only [hg]
          exact exO_of_ev _ (runO_ok hG hr ⟨hle,runA_ok hG h hK⟩)
        · cases h
      · cases h
    · rename_i g b hg
      simp only [hg]
      split at h
      · rename_i t ht
        simp only [ht]
        split at h
        · rename_i htb
          subst htb
          split at h
          · rename_i v m1 n1 hr
            split at h
            · rename_i hle
              exact ⟨fun _=>exO_of_ev _ (runO_ok hG hr ⟨hle,runA_ok hG h hK⟩),fun e=>by cases t <;> cases e⟩
            · cases h
          · cases h
        · rename_i htb
          exact ⟨fun e=>absurd e htb,fun _=>runA_ok hG h hK⟩
      · rename_i vs ht
        simp only [ht]
        exact runA_ok hG h hK
      · cases h

def clearB (tc:Option (List Nat)) (bs:List Nat):Bool:=
  match bs with
  | []=>true
  | b :: r=>match tc with
    | some l=>(b :: r).all fun b=>!(l.contains b)
    | none=>false
def untouchedB (b:Nat) (pre:List Nat):Nat→List DW→Bool
  | _,[]=>true
  | q,x :: r=>(match pre.contains q with
      | true=>true
      | false=>match x.tc with
        | some l=>!(l.contains b)
        | none=>false) && untouchedB b pre (q+1) r
theorem clearB_ok {tc:Option (List Nat)} {bs:List Nat} (h:clearB tc bs=true):clear tc bs:=by
  unfold clearB at h
  unfold clear
  split at h
  · trivial
  · simp only
    split at h
    · exact h
    · cases h
theorem untouchedB_ok {b:Nat} {pre:List Nat}:∀ {l:List DW} {q:Nat},untouchedB b pre q l=true→untouched b pre q l
  | [],q,h=>trivial
  | x :: r,q,h=>by
    simp only [untouchedB,Bool.and_eq_true] at h
    simp only [untouched]
    refine ⟨?_,untouchedB_ok h.2⟩
    have h:=h.1
    cases hp:pre.contains q with
    | true=>trivial
    | false=>
      rw [hp] at h
      simp only at h ⊢
      split at h
      · rename_i l hl
        rw [hl];simpa using h
      · cases h

def wrOp (fr:Fr) (m:Mem):SOp→Option (Nat × Blk)
  | .store k a x=>match a.ev fr with
    | .ptr b off=>match rd m b with
      | some ⟨.own e,cells⟩=>match (x.ev fr).cells? with
        | some l=>if l.length=k then if off+k≤cells.length then some (b,⟨.own e,splice cells off l⟩) else none else none
        | none=>none
      | _=>none
    | _=>none
  | .mput a x key=>match x.ev fr with
    | .mp b=>match keysOf m b with
      | some (a',ks)=>match kvOf a (key.ev fr) with
        | some kv=>if a'=a then some (b,⟨.map a (insK ks kv),[]⟩) else none
        | none=>none
      | none=>none
    | _=>none
  | _=>none
def isW:SOp→Bool
  | .store _ _ _=>true
  | .mput _ _ _=>true
  | _=>false

def runW (T:List (Nat × List SV)) (G:RunF) (fr0:Fr) (m0:Mem):List Opr→List DW→Nat→Option (List DW × Nat)
  | [],done,n=>some (done,n)
  | o :: r,done,n=>
    match isW o.op with
    | true=>match o.guard with
      | none=>match wrOp (frD (pickD (baseD done) o.pre) (dels fr0 o.hide)) (memD (pickD (baseD done) o.pre) m0) o.op with
        | some (b,B)=>match (stBlk done).contains b with
          | false=>match untouchedB b o.pre 0 done with
            | true=>runW T G fr0 m0 r (done++[⟨⟨o.dst,.any,[],n,n⟩,some (b,B),none⟩]) n
            | false=>none
          | true=>none
        | none=>none
      | some _=>none
    | false=>match clearB (touch (frD (pickD (baseD done) o.pre) (dels fr0 o.hide)) o.op) (stBlk done) with
      | false=>none
      | true=>match o.guard with
        | none=>match runO T G (frD (pickD (baseD done) o.pre) (dels fr0 o.hide)) (views (memD (pickD (baseD done) o.pre) m0)) n o.op with
          | some (v,m',n')=>if n≤n' then runW T G fr0 m0 r (done++[⟨⟨o.dst,v,newer n m',n,n'⟩,none,touch (frD (pickD (baseD done) o.pre) (dels fr0 o.hide)) o.op⟩]) n' else none
          | none=>none
        | some (g,b)=>
          match get (frD (pickD (baseD done) o.pre) (dels fr0 o.hide)) g with
          | .bool t=>if t=b then (match runO T G (frD (pickD (baseD done) o.pre) (dels fr0 o.hide)) (views (memD (pickD (baseD done) o.pre) m0)) n o.op with
              | some (v,m',n')=>if n≤n' then runW T G fr0 m0 r (done++[⟨⟨o.dst,v,newer n m',n,n'⟩,none,touch (frD (pickD (baseD done) o.pre) (dels fr0 o.hide)) o.op⟩]) n' else none
              | none=>none) else runW T G fr0 m0 r (done++[⟨⟨o.dst,.val undef,[],n,n⟩,none,some []⟩]) n
          | .val (.tuple _)=>runW T G fr0 m0 r (done++[⟨⟨o.dst,.val undef,[],n,n⟩,none,some []⟩]) n
          | _=>none

theorem runW_ok {T:List (Nat × List SV)} {G:RunF} {call:CallT} (hG:RunOk G call) {fr0:Fr} {m0:Mem}:∀ {ops:List Opr} {done:List DW} {n:Nat} {done':List DW} {n':Nat} {K:List DW→Nat→Prop},
    runW T G fr0 m0 ops done n=some (done',n')→K done' n'→exW T call fr0 m0 ops done n K
  | [],done,n,done',n',K,h,hK=>by simp only [runW] at h;cases h;exact hK
  | o :: r,done,n,done',n',K,h,hK=>by
    simp only [runW] at h
    unfold exW
    simp only
    split at h
    · split at h
      · rename_i hg
        split at h
        · rename_i b B hw
          split at h
          · rename_i hc
            split at h
            · rename_i hu
              have hu:=untouchedB_ok hu
              unfold wrOp at hw
              split at hw
              · rename_i hop
                rw [hop];simp only
                refine ⟨hg,?_⟩
                split at hw
                · rename_i hab
                  simp only [hab]
                  split at hw
                  · rename_i hr
                    split at hw
                    · rename_i hl
                      split at hw
                      · split at hw
                        · cases hw;exact ⟨_,_,_,hr,hl,by assumption,by assumption,hc,hu,runW_ok hG h hK⟩
                        · cases hw
                      · cases hw
                    · cases hw
                  · cases hw
                · cases hw
              · rename_i hop
                rw [hop];simp only
                refine ⟨hg,?_⟩
                split at hw
                · rename_i hab
                  simp only [hab]
                  split at hw
                  · rename_i hks
                    split at hw
                    · rename_i hkv
                      split at hw
                      · rename_i he;subst he;cases hw
                        exact ⟨_,_,hks,hkv,hc,hu,runW_ok hG h hK⟩
                      · cases hw
                    · cases hw
                  · cases hw
                · cases hw
              · cases hw
            · cases h
          · cases h
        · cases h
      · cases h
    · rename_i hw
      split at h
      · cases h
      · rename_i hcl
        have hcl:=clearB_ok hcl
        split
        · rename_i hop;rw [hop] at hw;cases hw
        · rename_i hop;rw [hop] at hw;cases hw
        refine ⟨hcl,?_⟩
        split at h
        · split at h
          · rename_i hg _ v m1 n1 hr
            split at h
            · rename_i hle
              simp only [hg]
              exact exO_of_ev _ (runO_ok hG hr ⟨hle,runW_ok hG h hK⟩)
            · cases h
          · cases h
        · rename_i g b hg
          simp only [hg]
          split at h
          · rename_i t ht
            simp only [ht]
            split at h
            · rename_i htb
              subst htb
              split at h
              · rename_i v m1 n1 hr
                split at h
                · rename_i hle
                  exact ⟨fun _=>exO_of_ev _ (runO_ok hG hr ⟨hle,runW_ok hG h hK⟩),fun e=>by cases t <;> cases e⟩
                · cases h
              · cases h
            · rename_i htb
              exact ⟨fun e=>absurd e htb,fun _=>runW_ok hG h hK⟩
          · rename_i vs ht
            simp only [ht]
            exact runW_ok hG h hK
          · cases h

abbrev R4:=SX × Fr × Mem × Nat

def runL (body:Fr→Mem→Nat→Option R4):Nat→Fr→Mem→Nat→Option R4
  | 0,_,_,_=>none
  | k+1,fr,m,n=>match body fr m n with
    | some (.normal,fr',m',n')=>runL body k fr' m' n'
    | r=>r

def runC (T:List (Nat × List SV)) (G:RunF) (u:Nat):SC→Fr→Mem→Nat→Option R4
  | .skip,fr,m,n=>some (.normal,fr,m,n)
  | .reg ops,fr,m,n=>match runR T G ops fr m n with
    | some (fr',m',n')=>some (.normal,fr',m',n')
    | none=>none
  | .regP _ ops,fr,m,n=>match runR T G ops fr m n with
    | some (fr',m',n')=>some (.normal,fr',m',n')
    | none=>none
  | .regD k ops,fr,m,n=>match runA T G fr m (ops.take k) [] n with
    | some (done,n1)=>match runR T G (ops.drop k) (dels (frD done.reverse fr) (kills (ops.take k))) (memD done.reverse m) n1 with
      | some (fr',m',n')=>some (.normal,fr',m',n')
      | none=>none
    | none=>none
  | .regW k ops,fr,m,n=>match runW T G fr m (ops.take k) [] n with
    | some (done,n1)=>match runR T G (ops.drop k) (dels (frD (baseD done).reverse fr) (kills (ops.take k))) (updsW done (memD (baseD done).reverse m)) n1 with
      | some (fr',m',n')=>some (.normal,fr',m',n')
      | none=>none
    | none=>none
  | .bad,_,_,_=>none
  | .seq a b,fr,m,n=>match runC T G u a fr m n with
    | some (.normal,fr',m',n')=>runC T G u b fr' m' n'
    | r=>r
  | .cond x a b,fr,m,n=>match x.ev fr with
    | .bool true=>runC T G u a fr m n
    | .bool false=>runC T G u b fr m n
    | _=>none
  | .block id c,fr,m,n=>match runC T G u c fr m n with
    | some (.exit j,fr',m',n')=>if j=id then some (.normal,fr',m',n') else some (.exit j,fr',m',n')
    | r=>r
  | .loop c,fr,m,n=>runL (runC T G u c) u fr m n
  | .exit id,fr,m,n=>some (.exit id,fr,m,n)
  | .ret,fr,m,n=>some (.ret,fr,m,n)

theorem runL_ok {n0:Nat} {body:Fr→Mem→Nat→Option R4} {ex:Fr→Mem→Nat→Post→Prop}
    (hb:∀ fr m n e fr' m' n' Q,body fr m n=some (e,fr',m',n')→Q e fr' m' n'→ex fr m n Q):∀ {u:Nat} {fr:Fr} {m:Mem} {n:Nat} {e:SX} {fr':Fr} {m':Mem} {n':Nat} {Q:Post},
    runL body u fr m n=some (e,fr',m',n')→Q e fr' m' n'→e≠.normal→loopN n0 ex Q u fr m n
  | 0,fr,m,n,e,fr',m',n',Q,h,hQ,_=>by simp only [runL] at h;cases h
  | k+1,fr,m,n,e,fr',m',n',Q,h,hQ,he=>by
    simp only [runL] at h
    simp only [loopN]
    left
    split at h
    · rename_i fr1 m1 n1 h1
      exact hb _ _ _ _ _ _ _ _ h1 (runL_ok hb h hQ he)
    · refine hb _ _ _ _ _ _ _ _ h ?_
      unfold seqQ
      cases e with
      | normal=>exact (he rfl).elim
      | exit j=>exact hQ
      | ret=>exact hQ

theorem runL_not {body:Fr→Mem→Nat→Option R4}:∀ {u:Nat} {fr:Fr} {m:Mem} {n:Nat} {fr':Fr} {m':Mem} {n':Nat},runL body u fr m n≠some (.normal,fr',m',n')
  | 0,fr,m,n,fr',m',n'=>by simp [runL]
  | k+1,fr,m,n,fr',m',n'=>by
    simp only [runL]
    split
    · exact runL_not
    · rename_i hne
      intro h
      exact hne _ _ _ h

theorem runC_ok {T:List (Nat × List SV)} {G:RunF} {call:CallT} (hG:RunOk G call) {n0 u:Nat}:∀ (c:SC) {fr:Fr} {m:Mem} {n:Nat} {e:SX} {fr':Fr} {m':Mem} {n':Nat} {Q:Post},
    runC T G u c fr m n=some (e,fr',m',n')→Q e fr' m' n'→exC T call n0 c fr m n Q:=by
  intro c
  induction c with
  | skip=>intro fr m n e fr' m' n' Q h hQ;simp only [runC] at h;cases h;exact hQ
  | reg ops=>
    intro fr m n e fr' m' n' Q h hQ
    simp only [runC] at h
    split at h
    · rename_i h1;cases h;simp only [exC];exact runR_ok hG h1 hQ
    · cases h
  | regP k ops=>
    intro fr m n e fr' m' n' Q h hQ
    simp only [runC] at h
    split at h
    · rename_i h1;cases h;simp only [exC];exact runR_ok hG h1 hQ
    · cases h
  | regD k ops=>
    intro fr m n e fr' m' n' Q h hQ
    simp only [runC] at h
    split at h
    · rename_i done n1 h1
      split at h
      · rename_i h2;cases h;simp only [exC];exact runA_ok hG h1 (runR_ok hG h2 hQ)
      · cases h
    · cases h
  | regW k ops=>
    intro fr m n e fr' m' n' Q h hQ
    simp only [runC] at h
    split at h
    · rename_i done n1 h1
      split at h
      · rename_i h2;cases h;simp only [exC];exact runW_ok hG h1 (runR_ok hG h2 hQ)
      · cases h
    · cases h
  | bad=>intro fr m n e fr' m' n' Q h hQ;simp only [runC] at h;cases h
  | seq a b iha ihb=>
    intro fr m n e fr' m' n' Q h hQ
    simp only [runC] at h
    simp only [exC]
    split at h
    · rename_i fr1 m1 n1 h1
      exact iha h1 (ihb h hQ)
    · rename_i hne
      refine iha h ?_
      unfold seqQ
      cases e with
      | normal=>exact (hne _ _ _ h).elim
      | exit j=>exact hQ
      | ret=>exact hQ
  | cond x a b iha ihb=>
    intro fr m n e fr' m' n' Q h hQ
    simp only [runC] at h
    simp only [exC,onBool]
    split at h
    · rename_i hx;simp only [hx];exact ⟨fun _=>iha h hQ,fun h=>by cases h⟩
    · rename_i hx;simp only [hx];exact ⟨(fun h=>by cases h),fun _=>ihb h hQ⟩
    · cases h
  | block id c ih=>
    intro fr m n e fr' m' n' Q h hQ
    simp only [runC] at h
    simp only [exC]
    split at h
    · rename_i j fr1 m1 n1 h1
      refine ih h1 ?_
      unfold blkQ
      simp only
      split at h
      · rename_i hj;rw [if_pos hj];cases h;exact hQ
      · rename_i hj;rw [if_neg hj];cases h;exact hQ
    · rename_i hne
      refine ih h ?_
      unfold blkQ
      cases e with
      | normal=>exact hQ
      | exit j=>exact (hne _ _ _ _ h).elim
      | ret=>exact hQ
  | loop c ih=>
    intro fr m n e fr' m' n' Q h hQ
    simp only [runC] at h
    simp only [exC]
    have hne:e≠.normal:=fun he=>by subst he;exact runL_not h
    exact ⟨u,runL_ok (ex:=exC T call n0 c) (fun fr m n e fr' m' n' Q h hQ=>ih h hQ) h hQ hne⟩
  | exit id=>intro fr m n e fr' m' n' Q h hQ;simp only [runC] at h;cases h;exact hQ
  | ret=>intro fr m n e fr' m' n' Q h hQ;simp only [runC] at h;cases h;exact hQ

def noG:RunF:=fun _ _ _ _=>none
def runRes (T:List (Nat × List SV)) (fr:Fr):List RV→Mem→Nat→Option (List SV × Mem × Nat)
  | [],m,n=>some ([],m,n)
  | .t d :: r,m,n=>match runRes T fr r m n with
    | some (l,m',n')=>some (get fr d :: l,m',n')
    | none=>none
  | .c d g :: r,m,n=>match runO T noG fr m n (.load g (.t d)) with
    | some (v,m1,n1)=>match runRes T fr r m1 n1 with
      | some (l,m',n')=>some (v :: l,m',n')
      | none=>none
    | none=>none

theorem runRes_ok {T:List (Nat × List SV)} {fr:Fr}:∀ {rs:List RV} {m:Mem} {n:Nat} {l:List SV} {m':Mem} {n':Nat} {K:List SV→Mem→Nat→Prop},
    runRes T fr rs m n=some (l,m',n')→K l m' n'→exRes T fr rs m n K
  | [],m,n,l,m',n',K,h,hK=>by simp only [runRes] at h;cases h;exact hK
  | .t d :: r,m,n,l,m',n',K,h,hK=>by
    simp only [runRes] at h
    simp only [exRes]
    split at h
    · rename_i h1;cases h;exact runRes_ok h1 hK
    · cases h
  | .c d g :: r,m,n,l,m',n',K,h,hK=>by
    simp only [runRes] at h
    simp only [exRes]
    split at h
    · rename_i h0
      split at h
      · rename_i h1;cases h
        exact exO_of_ev _ (runO_ok (G:=noG) (fun f args m n v m' n' K h _=>by cases h) h0 (runRes_ok h1 hK))
      · cases h
    · cases h

def decM:Nat→Mem→Bool
  | _,[]=>true
  | n,(i,B) :: r=>Nat.blt i n && decM i r
def hasK (i:Nat):Mem→Bool
  | []=>false
  | (j,_) :: r=>Nat.beq j i || hasK i r
def difM (n:Nat):Mem→Bool
  | []=>true
  | (i,B) :: r=>Nat.blt i n && !(hasK i r) && difM n r
def okM (n:Nat) (m:Mem):Bool:=decM n m || difM n m

structure Good (n:Nat) (m:Mem):Prop where
  lt:∀ i B,(i,B) ∈ m→i < n
  nd:m.Pairwise fun x y=>x.1≠y.1

theorem decM_lt:∀ {m:Mem} {n:Nat},decM n m=true→∀ i B,(i,B) ∈ m→i < n
  | (j,B') :: r,n,h,i,B,hi=>by
    simp only [decM,Bool.and_eq_true,Nat.blt_eq] at h
    rcases List.mem_cons.1 hi with e | e
    · cases e;exact h.1
    · have:=decM_lt h.2 i B e;omega
theorem hasK_mem {i:Nat}:∀ {m:Mem},hasK i m=false→∀ x ∈ m,x.1≠i
  | (j,B) :: r,h,x,hx=>by
    simp only [hasK,Bool.or_eq_false_iff] at h
    rcases List.mem_cons.1 hx with e | e
    · subst e
      intro e
      have:=h.1
      simp only at e
      rw [e,Nat.beq_refl] at this;cases this
    · exact hasK_mem h.2 x e
theorem okM_good {n:Nat} {m:Mem} (h:okM n m=true):Good n m:=by
  simp only [okM,Bool.or_eq_true] at h
  rcases h with h | h
  · refine ⟨decM_lt h,?_⟩
    induction m generalizing n with
    | nil=>exact List.Pairwise.nil
    | cons x r ih=>
      obtain ⟨i,B⟩:=x
      simp only [decM,Bool.and_eq_true,Nat.blt_eq] at h
      refine List.Pairwise.cons (fun y hy=>?_) (ih h.2)
      have:=decM_lt h.2 y.1 y.2 hy
      simp only;omega
  · induction m with
    | nil=>exact ⟨by simp,List.Pairwise.nil⟩
    | cons x r ih=>
      obtain ⟨i,B⟩:=x
      simp only [difM,Bool.and_eq_true,Nat.blt_eq,Bool.not_eq_true'] at h
      have hr:=ih h.2
      refine ⟨fun j B' hj=>?_,List.Pairwise.cons (fun y hy=>(hasK_mem h.1.2 y hy).symm) hr.nd⟩
      rcases List.mem_cons.1 hj with e | e
      · cases e;exact h.1.1
      · exact hr.lt j B' e

theorem Good.tail {n:Nat} {x:Nat × Blk} {r:Mem} (h:Good n (x :: r)):Good n r:=
  ⟨fun i B hi=>h.lt i B (List.mem_cons_of_mem _ hi),(List.pairwise_cons.1 h.nd).2⟩
theorem Good.head {n:Nat} {x:Nat × Blk} {r:Mem} (h:Good n (x :: r)):∀ y ∈ r,x.1≠y.1:=(List.pairwise_cons.1 h.nd).1
theorem Good.filter {n:Nat} {m:Mem} (h:Good n m) (p:Nat × Blk→Bool):Good n (m.filter p):=
  ⟨fun i B hi=>h.lt i B (List.mem_filter.1 hi).1,h.nd.filter p⟩
theorem Good.mem {n:Nat}:∀ {m:Mem},Good n m→∀ {i:Nat} {B:Blk},(i,B) ∈ m→rd m i=some B
  | (j,B') :: r,h,i,B,hi=>by
    rcases List.mem_cons.1 hi with e | e
    · cases e;unfold rd;rw [if_pos rfl]
    · have:=h.head _ e
      unfold rd
      rw [if_neg this];exact h.tail.mem e

theorem eta_id {k n:Nat} (h:k≤n) {i:Nat} (hi:i < k):eta (idHs k) n i=(i,0):=by
  unfold eta;rw [idHs_get hi];rfl
theorem eta_all {n i:Nat}:eta (idHs n) n i=(i,0):=by
  by_cases h:i < n
  · exact eta_id (Nat.le_refl _) h
  · rw [eta_ge (by rw [idHs_len];omega),idHs_len];congr 1;omega

theorem compat_id {n:Nat}:∀ {m0 m:Mem},(∀ i B,(i,B) ∈ m0→rd m i=some B)→compat (eta (idHs n) n) m m0
  | [],m,h=>trivial
  | (i,B) :: r,m,h=>by
    simp only [compat]
    refine ⟨⟨B,by rw [eta_all];exact h i B List.mem_cons_self,?_⟩,compat_id fun j B' hj=>h j B' (List.mem_cons_of_mem _ hj)⟩
    have hren:B.cells=SV.renL (eta (idHs n) n) B.cells:=(SV.renL_id _ (fun i=>eta_all) _).symm
    cases hk:B.kind with
    | view=>simp only;rw [eta_all,← hren];simp
    | own e=>simp only;exact ⟨by rw [eta_all],trivial,hren⟩
    | map a ks=>simp only;exact ⟨by rw [eta_all],trivial,hren⟩

theorem apartM_id {n k:Nat}:∀ {m:Mem},Good k m→apartM (eta (idHs n) n) m
  | [],h=>trivial
  | (i,B) :: r,h=>by
    simp only [apartM]
    refine ⟨fun x hx _=>?_,apartM_id h.tail⟩
    rw [eta_all,eta_all];exact h.head x hx

theorem keysBelow_id {n:Nat}:∀ {m:Mem},Good n m→keysBelow n m
  | [],h=>trivial
  | (i,B) :: r,h=>by
    simp only [keysBelow]
    exact ⟨h.lt i B List.mem_cons_self,keysBelow_id h.tail⟩

theorem zeroSh_id {n:Nat}:∀ {m:Mem},zeroSh (eta (idHs n) n) m
  | []=>trivial
  | (i,B) :: r=>by
    simp only [zeroSh]
    exact ⟨fun _=>by rw [eta_all],zeroSh_id⟩

def ownPart:Mem→Mem
  | []=>[]
  | (i,B) :: r=>match B.kind.isOwn with
    | true=>(i,B) :: ownPart r
    | false=>ownPart r
def viewPart:Mem→Mem
  | []=>[]
  | (i,B) :: r=>match B.kind.isOwn with
    | true=>viewPart r
    | false=>(i,B) :: viewPart r

theorem newOwn_id {n:Nat}:∀ {m:Mem},newOwn (eta (idHs n) n) m=ownPart m
  | []=>rfl
  | (i,B) :: r=>by
    simp only [newOwn,ownPart,eta_all,newOwn_id]
    rw [SV.renL_id _ (fun i=>eta_all)]
    cases B.kind.isOwn <;> rfl

theorem targets_id {n:Nat}:∀ {m:Mem},targets (eta (idHs n) n) m=(ownPart m).map (·.1)
  | []=>rfl
  | (i,B) :: r=>by
    simp only [targets,ownPart,eta_all,targets_id]
    cases B.kind.isOwn <;> rfl

theorem ownPart_mem:∀ {m:Mem} {i:Nat},i ∈ (ownPart m).map (·.1)→∃ B,(i,B) ∈ m
  | (j,B) :: r,i,h=>by
    unfold ownPart at h
    split at h
    · simp only [List.map_cons,List.mem_cons] at h
      rcases h with h | h
      · exact ⟨B,by rw [h];exact List.mem_cons_self⟩
      · obtain ⟨B',h'⟩:=ownPart_mem h;exact ⟨B',List.mem_cons_of_mem _ h'⟩
    · obtain ⟨B',h'⟩:=ownPart_mem h;exact ⟨B',List.mem_cons_of_mem _ h'⟩
  | [],i,h=>by simp [ownPart] at h

theorem rm_none:∀ {m:Mem} {t:Nat},(∀ B,(t,B) ∉ m)→rm m t=m
  | [],t,_=>rfl
  | (j,B) :: r,t,h=>by
    unfold rm
    rw [if_neg (fun e=>h B (by rw [← e];exact List.mem_cons_self)),rm_none fun B' hB'=>h B' (List.mem_cons_of_mem _ hB')]

theorem rms_cons_view {i:Nat} {B:Blk}:∀ {ts:List Nat} {r:Mem},i ∉ ts→rms ((i,B) :: r) ts=(i,B) :: rms r ts
  | [],r,_=>rfl
  | t :: ts,r,h=>by
    simp only [List.mem_cons,not_or] at h
    simp only [rms]
    have:rm ((i,B) :: r) t=(i,B) :: rm r t:=by
      conv=>lhs;unfold rm
      rw [if_neg h.1]
    rw [this,rms_cons_view h.2]

theorem rms_own:∀ {m:Mem} {k:Nat},Good k m→rms m ((ownPart m).map (·.1))=viewPart m
  | [],k,h=>rfl
  | (i,B) :: r,k,h=>by
    have hni:∀ B',(i,B') ∉ r:=fun B' hB'=>h.head _ hB' rfl
    simp only [ownPart,viewPart]
    split
    · simp only [List.map_cons,rms]
      have:rm ((i,B) :: r) i=r:=by
        unfold rm
        rw [if_pos rfl,rm_none hni]
      rw [this,rms_own h.tail]
    · have hn:i ∉ (ownPart r).map (·.1):=fun hi=>by
        obtain ⟨B',hB'⟩:=ownPart_mem hi
        exact hni B' hB'
      rw [rms_cons_view hn,rms_own h.tail]

theorem callT_id {P:Program} {T:List (Nat × List SV)} {f:FuncId} {args:List SV} {m:Mem} {n:Nat} {r:SV} {m1:Mem} {n1:Nat} {K:Kt}
    (F:Fun P T f args m n r m1 n1) (hm:Good n m) (hK:K r (ownPart m1++viewPart m) n1):callT P T f args m n K:=by
  refine ⟨idHs n,args,m,r,m1,n1,by rw [idHs_len];exact F,(SV.renL_id _ (fun i=>eta_all) _).symm,?_,apartM_id hm,by rw [idHs_len];exact keysBelow_id hm,?_,zeroSh_id,?_⟩
  · exact compat_id fun i B hi=>hm.mem hi
  · intro h hh
    obtain ⟨i,hi,rfl⟩:=List.getElem_of_mem hh
    rw [idHs_len] at hi
    have:=idHs_get hi
    rw [List.getElem?_eq_getElem (by rw [idHs_len];exact hi)] at this
    simp only [Option.some.injEq] at this
    rw [this];exact hi
  · rw [newOwn_id,targets_id,rms_own hm,SV.ren_id _ (fun i=>eta_all),idHs_len]
    have:=F.le
    rw [show n+(n1 - n)=n1 by omega]
    exact hK

mutual
def SV.refs:SV→List Nat
  | .ptr i _=>[i]
  | .slc i _ _ _ _=>[i]
  | .mp i=>[i]
  | .fn _ xs bs=>SV.refsL xs++SV.refsL bs
  | .agg l=>SV.refsL l
  | .tup l=>SV.refsL l
  | _=>[]
def SV.refsL:List SV→List Nat
  | []=>[]
  | a :: l=>match SV.refs a with
    | []=>SV.refsL l
    | x :: xs=>x :: xs++SV.refsL l
end
def memN:List Nat→Nat→Bool
  | [],_=>false
  | a :: l,x=>match Nat.beq a x with
    | true=>true
    | false=>memN l x
def gcRoots (n:Nat) (r:SV):Mem→List Nat
  | []=>SV.refs r
  | (i,B) :: m=>match Nat.blt i n with
    | true=>SV.refsL B.cells++gcRoots n r m
    | false=>gcRoots n r m
def gcStep (m:Mem) (roots:List Nat):List Nat:=
  match m with
  | []=>roots
  | (i,B) :: m=>match memN roots i with
    | true=>gcStep m (SV.refsL B.cells++roots)
    | false=>gcStep m roots
def gcAll (n:Nat) (r:SV) (m:Mem):Mem:=
  let roots:=gcStep m (gcStep m (gcRoots n r m))
  m.filter fun x=>Nat.blt x.1 n || memN roots x.1

def closeR (n:Nat) (r:SV) (m:Mem) (n3:Nat):Option R3:=
  match okM n3 m with
  | true=>match gcAll n r m with
    | []=>match r.flat with
      | true=>some (r,[],n)
      | false=>none
    | x :: m1=>match Nat.ble n n3 with
      | true=>some (r,x :: m1,n3)
      | false=>none
  | false=>none

def backR (m:Mem):Option R3→Option R3
  | some (r,m1,n1)=>some (r,ownPart m1++viewPart m,n1)
  | none=>none
theorem backR_some {m:Mem} {o:Option R3} {r:SV} {m':Mem} {n':Nat} (h:backR m o=some (r,m',n')):∃ m1,o=some (r,m1,n')∧m'=ownPart m1++viewPart m:=by
  unfold backR at h
  split at h
  · cases h;exact ⟨_,rfl,rfl⟩
  · cases h

def runF (Tb:FuncId→Option SF) (T:List (Nat × List SV)) (X:RunF) (u:Nat):Nat→RunF
  | 0=>noG
  | d+1=>fun f args m n=>match X f args m n with
    | some r=>some r
    | none=>match Tb f with
      | none=>none
      | some sf=>match okM n m with
        | true=>match Nat.ble args.length sf.n with
          | true=>match runC T (runF Tb T X u d) u sf.body (frOf 0 args) m n with
            | some (.exit _,_,_,_)=>none
            | some (.normal,fr,m2,n2)=>match runRes T fr sf.res m2 n2 with
              | some (l,m3,n3)=>backR m (closeR n (retOf l) m3 n3)
              | none=>none
            | some (.ret,fr,m2,n2)=>match runRes T fr sf.res m2 n2 with
              | some (l,m3,n3)=>backR m (closeR n (retOf l) m3 n3)
              | none=>none
            | none=>none
          | false=>none
        | false=>none

def TbOk (P:Program) (Tb:FuncId→Option SF):Prop:=∀ f sf,Tb f=some sf→chkF P f sf=true

theorem idHs_take {n k:Nat} (h:n≤k):(idHs k).take n=idHs n:=by
  apply List.ext_getElem?
  intro i
  by_cases hi:i < n
  · rw [List.getElem?_take_of_lt hi,idHs_get hi,idHs_get (by omega)]
  · rw [List.getElem?_eq_none (by simp [idHs_len];omega),List.getElem?_eq_none (by rw [idHs_len];omega)]

theorem closeR_ok {n:Nat} {r:SV} {m:Mem} {n3:Nat} {r':SV} {m1:Mem} {n1:Nat} (h:closeR n r m n3=some (r',m1,n1)) :
    r'=r∧n≤n1∧∃ hs,EntM n m n3 hs m1 n1∧r=r.ren (eta hs n3):=by
  unfold closeR at h
  split at h
  · rename_i hok
    split at h
    · split at h
      · rename_i hf
        cases h
        exact ⟨rfl,Nat.le_refl _,idHs n,⟨idHs_len n,Nat.le_refl _,by rw [List.take_of_length_le (by rw [idHs_len];exact Nat.le_refl _)],trivial,trivial,trivial⟩,(SV.flat_ren _ _ hf).symm⟩
      · cases h
    · rename_i x m1 hgc
      split at h
      · rename_i hle
        cases h
        have hle:=Nat.le_of_ble_eq_true hle
        have hok:=okM_good hok
        have hsub:Good n3 (x :: m1):=by rw [← hgc];exact hok.filter _
        refine ⟨rfl,hle,idHs n3,⟨idHs_len _,hle,idHs_take hle,?_,apartM_id hsub,keysBelow_id hsub⟩,(SV.ren_id _ (fun i=>eta_all) _).symm⟩
        refine compat_id fun i B hi=>?_
        have hin:(i,B) ∈ m:=by rw [← hgc] at hi;exact (List.mem_filter.1 hi).1
        exact hok.mem hin
      · cases h
  · cases h

theorem runF_fun {P:Program} {T:List (Nat × List SV)} {Tb:FuncId→Option SF} (hT:TbOk P Tb) {G:RunF} (hG:RunOk G (callT P T)) {u:Nat} {f:FuncId} {sf:SF} {args:List SV} {m:Mem} {n:Nat}
    {e:SX} {fr:Fr} {m2:Mem} {n2:Nat} {l:List SV} {m3:Mem} {n3:Nat} {r:SV} {m1:Mem} {n1:Nat} (hf:Tb f=some sf) (hl:args.length≤sf.n)
    (hr:runC T G u sf.body (frOf 0 args) m n=some (e,fr,m2,n2)) (he:∀ j,e≠.exit j) (h3:runRes T fr sf.res m2 n2=some (l,m3,n3)) (hc:closeR n (retOf l) m3 n3=some (r,m1,n1)) :
    Fun P T f args m n r m1 n1:=by
  obtain ⟨rfl,h1,hs,h4,h5⟩:=closeR_ok hc
  refine fun_of_exec (hT f sf hf) hl h1 (runC_ok hG _ hr ?_)
  unfold fin
  cases e with
  | exit j=>exact (he j rfl).elim
  | normal=>exact runRes_ok h3 ⟨hs,h4,h5⟩
  | ret=>exact runRes_ok h3 ⟨hs,h4,h5⟩

theorem runF_ok {P:Program} {T:List (Nat × List SV)} {Tb:FuncId→Option SF} (hT:TbOk P Tb) {X:RunF} (hX:RunOk X (callT P T)) {u:Nat}:∀ d,RunOk (runF Tb T X u d) (callT P T)
  | 0=>fun f args m n v m' n' K h _=>by cases h
  | d+1=>fun f args m n v m' n' K h hK=>by
    simp only [runF] at h
    split at h
    · rename_i r hr
      cases h
      exact hX _ _ _ _ _ _ _ _ hr hK
    · split at h
      · cases h
      · rename_i sf hf
        split at h
        · rename_i hm
          split at h
          · rename_i hl
            have hl:=Nat.le_of_ble_eq_true hl
            split at h
            · cases h
            · rename_i hr
              split at h
              · rename_i h3
                obtain ⟨m1,hc,rfl⟩:=backR_some h
                exact callT_id (runF_fun hT (runF_ok hT hX d) hf hl hr (fun j=>by simp) h3 hc) (okM_good hm) hK
              · cases h
            · rename_i hr
              split at h
              · rename_i h3
                obtain ⟨m1,hc,rfl⟩:=backR_some h
                exact callT_id (runF_fun hT (runF_ok hT hX d) hf hl hr (fun j=>by simp) h3 hc) (okM_good hm) hK
              · cases h
            · cases h
          · cases h
        · cases h
end Go.Sx

/- The engine, part Rc: contracts of functions of values and slices, for the runner. -/
namespace Go.Sx
open Go
set_option linter.unusedSimpArgs false
set_option linter.unusedVariables false
def belowB (n:Nat):List (Nat × Nat)→Bool
  | []=>true
  | h :: r=>Nat.blt h.1 n && belowB n r
theorem belowB_ok {n:Nat}:∀ {hs:List (Nat × Nat)},belowB n hs=true→belowL n hs
  | [],_=>trivial
  | h :: r,hb=>by
    simp only [belowB,Bool.and_eq_true,Nat.blt_eq] at hb
    exact ⟨hb.1,belowB_ok hb.2⟩
def apB1 (t:Nat) (o:Bool):List (Nat × Nat)→Mem→Bool
  | h :: hs,(_,B) :: r=>(!(o || B.kind.isOwn) || !(Nat.beq t h.1)) && apB1 t o hs r
  | _,_=>true
def apB:List (Nat × Nat)→Mem→Bool
  | h :: hs,(_,B) :: r=>apB1 h.1 B.kind.isOwn hs r && apB hs r
  | _,_=>true
theorem apB1_ok {t:Nat} {o:Bool}:∀ {hs:List (Nat × Nat)} {m:Mem},apB1 t o hs m=true→apH1 t o hs m
  | h :: hs,(_,B) :: r,hb=>by
    simp only [apB1,Bool.and_eq_true,Bool.or_eq_true,Bool.not_eq_true'] at hb
    refine ⟨fun ho e=>?_,apB1_ok hb.2⟩
    rcases hb.1 with h1 | h1
    · rw [ho] at h1;cases h1
    · rw [e,Nat.beq_refl] at h1;cases h1
  | [],_,_=>by simp [apH1]
  | _ :: _,[],_=>by simp [apH1]
theorem apB_ok:∀ {hs:List (Nat × Nat)} {m:Mem},apB hs m=true→apH hs m
  | h :: hs,(_,B) :: r,hb=>by
    simp only [apB,Bool.and_eq_true] at hb
    exact ⟨apB1_ok hb.1,apB_ok hb.2⟩
  | [],_,_=>by simp [apH]
  | _ :: _,[],_=>by simp [apH]

def runS (S:List (FuncId × GS)):RunF:=fun f args m n=>
  match lookF S f with
  | some g=>match canLW (canV m 4) 0 args with
    | some (a0,hs,m0)=>match belowB n hs with
      | true=>match apB hs m0 with
        | true=>match g a0 m0 with
          | some (r0,m1,n1)=>some (r0.ren (eta hs n),newOwn (eta hs n) m1++rms m (targets (eta hs n) m0),n+(n1 - hs.length))
          | none=>none
        | false=>none
      | false=>none
    | none=>none
  | none=>none

theorem runS_ok {P:Program} {T:List (Nat × List SV)} {S:List (FuncId × GS)} (hS:∀ x ∈ S,FunS P T x.1 x.2):RunOk (runS S) (callT P T):=by
  intro f args m n v m' n' K h hK
  unfold runS at h
  split at h
  · rename_i g hg
    split at h
    · rename_i a0 hs m0 hcan
      split at h
      · rename_i hb
        split at h
        · rename_i hap
          split at h
          · rename_i hr
            cases h
            exact callS_one (hS _ (lookF_mem hg)) hcan (belowB_ok hb) (apB_ok hap) hr hK
          · cases h
        · cases h
      · cases h
    · cases h
  · cases h
end Go.Sx

/- The engine, part Rd: a function that is run. -/
namespace Go.Sx
open Go
set_option linter.unusedSimpArgs false
set_option linter.unusedVariables false
theorem fun_less {P:Program} {T:List (Nat × List SV)} {f:FuncId} {args:List SV} {m:Mem} {n:Nat} {r:SV} {m1:Mem} {n1:Nat} (F:Fun P T f args m n r m1 n1):Fun P T f args m n r [] n1:=by
  refine ⟨F.fok,F.le,fun ρ w vals R X hv=>(F.run ρ w vals R X hv).mono ?_⟩
  rintro e w' ⟨x,ρ',h1,h2,h3,h4⟩
  exact ⟨x,ρ',h1,h2,h3,h4.sub (by simp) (Nat.le_refl _)⟩

theorem fun_of_run {P:Program} {T:List (Nat × List SV)} {Tb:FuncId→Option SF} (hT:TbOk P Tb) {X:RunF} (hX:RunOk X (callT P T)) {u d:Nat} {f:FuncId} {args:List SV} {r:SV}
    (hx:X f args [] 0=none) (h:runF Tb T X u (d+1) f args [] 0=some (r,[],0)):Fun P T f args [] 0 r [] 0:=by
  simp only [runF,hx] at h
  split at h
  · cases h
  · rename_i sf hf
    split at h
    · split at h
      · rename_i hl
        have hl:=Nat.le_of_ble_eq_true hl
        split at h
        · cases h
        · rename_i hr
          split at h
          · rename_i h3
            obtain ⟨m1,hc,_⟩:=backR_some h
            exact fun_less (runF_fun hT (runF_ok hT hX d) hf hl hr (fun j=>by simp) h3 hc)
          · cases h
        · rename_i hr
          split at h
          · rename_i h3
            obtain ⟨m1,hc,_⟩:=backR_some h
            exact fun_less (runF_fun hT (runF_ok hT hX d) hf hl hr (fun j=>by simp) h3 hc)
          · cases h
        · cases h
      · cases h
    · cases h

theorem Fun.more {P:Program} {T T':List (Nat × List SV)} (hT:∀ x ∈ T,x ∈ T') {f:FuncId} {args:List SV} {m:Mem} {n:Nat} {r:SV} {m1:Mem} {n1:Nat} (F:Fun P T f args m n r m1 n1):Fun P T' f args m n r m1 n1:=by
  refine ⟨F.fok,F.le,fun ρ w vals R X hv=>(F.run ρ w vals ?_ ?_ hv).mono ?_⟩
  · exact ⟨R.blk,R.apart,R.fresh,R.wrt,R.size,R.frame,R.keep,R.side⟩
  · exact ⟨fun g cs h=>X.tab g cs (hT _ h),fun g cs h=>X.nwr g cs (hT _ h)⟩
  · rintro e w' ⟨x,ρ',h1,h2,h3,R'⟩
    exact ⟨x,ρ',h1,h2,h3,⟨R'.blk,R'.apart,R'.fresh,R'.wrt,R'.size,R'.frame,R'.keep,R'.side⟩⟩
theorem FunS.more {P:Program} {T T':List (Nat × List SV)} (hT:∀ x ∈ T,x ∈ T') {f:FuncId} {g:GS} (F:FunS P T f g):FunS P T' f g:=fun a0 m0 r m1 n1 h=>
  ⟨((F a0 m0 r m1 n1 h).1).more hT,(F a0 m0 r m1 n1 h).2⟩
end Go.Sx
