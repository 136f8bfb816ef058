/- The proof, part Vb: EngM, EngN, EngO, EngQ, EngR, EngS, EngSa, EngSb, EngSc, EngP, EngT, EngU. -/
import Derived.Test.YtmhkkalbijbplaaGreatDoorVa
import Derived.Tactics
set_option linter.unusedSimpArgs false
set_option linter.unusedVariables false
set_option maxRecDepth 100000
set_option maxHeartbeats 16000000
namespace Go.Sx
open Go
def tZ (P:Program) (t:TypeId) (s:Nat):Bool:=
 match P.underlying t with
 | some (.slice e)=>iG P e==some s
 | _=>false
def eY:List Operand→List Opd→Bool
 | [],[]=>true
 | o :: os,x :: xs=>aZ o x && eY os xs
 | _,_=>false
def jL (P:Program) (t:TypeId) (d:TypeDesc→Bool):Bool:=
 match P.underlying t with
 | some u=>d u
 | none=>false
def HH:Operand→Bool
 | .const (.slice none 0 0)=>true
 | _=>false
def JY (P:Program) (op:BinOp) (t:TypeId) (o o':Operand):SOp→Bool
 | .bin op' x y=>op==op' && aZ o x && aZ o' y
 | .eqv neg pat x y=>op==(if neg then .neq else .eql) && aZ o x && aZ o' y && n9 P 20 t==some pat && !(P.eqGuardType P.depth t) &&
  (match gX P t with|some (some _)=>true|_=>false)
 | .eqb neg x y=>op==(if neg then .neq else .eql) && aZ o x && aZ o' y && jL P t (fun|.bool=>true|_=>false)
 | .isNil neg x=>op==(if neg then .neq else .eql) && aZ o x && HH o' && jL P t (fun|.slice _=>true|_=>false)
 | .pcmp neg x y=>op==(if neg then .neq else .eql) && aZ o x && aZ o' y && NE P t
 | _=>false
def F6 (P:Program) (s d:TypeId) (o:Operand):SOp→Bool
 | .strS x=>aZ o x && (P.underlying s).isSome && jL P d (fun|.string=>true|_=>false)
 | .conv k x=>aZ o x && (P.underlying s).isSome && jL P d (fun|.int k'=>k'==k|_=>false)
 | .b2s x=>aZ o x && jL P d (fun|.string=>true|_=>false) && jL P s (fun|.slice e=>jL P e (fun|.int .u8=>true|_=>false)|_=>false)
 | .s2b e x=>aZ o x && (P.underlying s).isSome && jL P e (fun|.int .u8=>true|_=>false) && jL P d (fun|.slice e'=>e'==e|_=>false)
 | .mk8 x=>aZ o x && s==d && jL P s (fun|.slice e=>jL P e (fun|.int .u8=>true|_=>false)|_=>false)
 | .cvp e k x=>aZ o x && NG P s d e k
 | _=>false
def F7 (P:Program) (c:Call):SOp→Bool
 | .callp f xs=>(match c.callee with|.value (.func g)=>g==f|_=>false) && eY c.args.toList xs
 | .call f xs=>(match c.callee with|.value (.func g)=>g==f|_=>false) && eY c.args.toList xs
 | .callv x xs=>(match c.callee with|.value o=>aZ o x|_=>false) && eY c.args.toList xs
 | .len b x=>(match c.callee with|.builtin .len=>true|_=>false) && eY c.args.toList [x] && (match c.argTypes.toList with|[t]=>My P b t|_=>false)
 | .lenA n=>(match c.callee with|.builtin .len=>true|_=>false) && c.args.size==1 && (match c.argTypes.toList with|[t]=>(Cf P t).map (·.1)==some n|_=>false)
 | .app e s b x y=>(match c.callee with|.builtin .append=>true|_=>false) && eY c.args.toList [x,y] && (match c.argTypes.toList with|[t,u]=>HA P t u e s b|_=>false)
 | .copy s x y=>(match c.callee with|.builtin .copy=>true|_=>false) && eY c.args.toList [x,y] && s != 0 && (match c.argTypes.toList with|[t,_]=>tZ P t s|_=>false)
 | .mlen x=>(match c.callee with|.builtin .len=>true|_=>false) && eY c.args.toList [x] && (match c.argTypes.toList with|[t]=>jL P t (fun|.map _ _=>true|_=>false)|_=>false)
 | .capN x=>(match c.callee with|.builtin .cap=>true|_=>false) && eY c.args.toList [x] && (match c.argTypes.toList with|[t]=>jL P t (fun|.slice _=>true|_=>false)|_=>false)
 | .appZ e s b z x y=>(match c.callee with|.builtin .append=>true|_=>false) && eY c.args.toList [x,y] && (match c.argTypes.toList with|[t,u]=>JQ P t u e s b z|_=>false)
 | .mx x y=>(match c.callee with|.builtin .max=>true|_=>false) && eY c.args.toList [x,y]
 | .mn x y=>(match c.callee with|.builtin .min=>true|_=>false) && eY c.args.toList [x,y]
 | .noesc f x=>(match c.callee with|.value (.func g)=>g==f && F5 P f|_=>false) && eY c.args.toList [x]
 | .sdat s x=>(match c.callee with|.builtin .unsafeSliceData=>true|_=>false) && eY c.args.toList [x] && s != 0
 | .ustr e x y=>(match c.callee with|.builtin .unsafeString=>true|_=>false) && eY c.args.toList [x,y] &&
  (match c.argTypes.toList with|[t,_]=>(match P.underlying t with|some (.pointer e')=>e'==e && P.cellsOf e==1|_=>false)|_=>false)
 | _=>false
def NH (P:Program) (o:Op) (s:SOp):Bool:=
 match o with
 | .move y|.assign y=>match s with|.mv x=>aZ y x|_=>false
 | .pick c a b=>match s with|.pick c' a' b'=>aZ c c' && aZ a a' && aZ b b'|_=>false
 | .alloc t=>match s with|.new e z=>e==t && An P t z|_=>false
 | .box t y=>match s with|.box e x=>e==t && aZ y x|_=>false
 | .build t ps=>match s with
  | .build z qs=>An P t z && wE P t && (match CB P t with|some place=>pP place ps.toList qs|none=>false)
  | _=>false
 | .buildSlice t k ps=>match s with
  | .bslice e sz k' z qs=>k==k' && jL P t (fun|.slice e'=>e'==e|_=>false) && iG P e==some sz && sz != 0 &&
    (match (P.info? e).bind (·.zero) with|some zv=>pH z ((Array.range (k * sz)).map (zv.cells[· % zv.cells.size]!)).toList|none=>false) &&
    decide (k * sz≤2 ^ 24) && pP (fun i=>some (i * sz,sz)) ps.toList qs
  | _=>false
 | .load t y=>match s with|.load g x=>gX P t==some g && aZ y x|_=>false
 | .store t y v=>match s with|.store k x z=>iG P t==some k && aZ y x && aZ v z|_=>false
 | .nilCheck y=>match s with|.nilc x=>aZ y x|_=>false
 | .fieldAddr t y f=>match s with
  | .fld x off=>aZ y x && (match P.underlying t with
   | some (.struct fs)=>(match fs[f]? with|some fd=>fd.offset==off && (match iG P fd.type with|some k=>k != 0|none=>false)|none=>false)
   | _=>false)
  | _=>false
 | .field t y f=>match s with
  | .fieldV x off g=>aZ y x && (match P.underlying t with
   | some (.struct fs)=>(match fs[f]? with|some fd=>fd.offset==off && gX P fd.type==some g|none=>false)
   | _=>false)
  | _=>false
 | .indexAddr t y j=>match s with
  | .idxA x i len sz=>aZ y x && aZ j i && (match P.underlying t with|some (.array n e)=>n==len && iG P e==some sz|_=>false)
  | .idxS x i sz=>aZ y x && aZ j i && tZ P t sz
  | _=>false
 | .index t y j=>match s with
  | .idxV x i len sz g=>aZ y x && aZ j i && (match P.underlying t with
   | some (.array n e)=>n==len && iG P e==some sz && gX P e==some (if g then some sz else none)
   | _=>false)
  | .idxT x i=>aZ y x && aZ j i && jL P t (fun|.string=>true|_=>false)
  | _=>false
 | .binOp op t y z _=>JY P op t y z s
 | .unOp op _ y=>match s with|.un op' x=>op==op' && aZ y x|_=>false
 | .convert u d y=>F6 P u d y s
 | .makeFunc (.func f) os os'=>match s with|.mkfn g xs xs'=>f==g && eY os.toList xs && eY os'.toList xs'|_=>false
 | .makeSlice t l c=>match s with
  | .mksl e sz b z x y=>sz != 0 && jL P t (fun|.slice e'=>e'==e|_=>false) && aZ l x && aZ c y &&
    (match P.info? e with|some i=>i.bytes==b && i.size==sz && (match i.zero with|some zv=>pH z zv.cells.toList && z.length==sz|none=>false)|none=>false)
  | _=>false
 | .slice t y lo hi none=>match s with
  | .slcS sz x l h=>aZ y x && qK lo l && qK hi h && tZ P t sz && sz != 0
  | .slcA k sz x l h=>aZ y x && qK lo l && qK hi h && (match Cf P t with|some (n,e)=>n==k && iG P e==some sz|none=>false)
  | .slcT x l h=>aZ y x && qK lo l && qK hi h && jL P t (fun|.string=>true|_=>false)
  | _=>false
 | .sliceToArrayPointer t y=>match s with|.arrAt k x=>aZ y x && (match P.underlying t with|some (.array n _)=>n==k|_=>false)|_=>false
 | .extract y i=>match s with|.ext x j=>aZ y x && i==j|_=>false
 | .call c=>F7 P c s
 | .makeMap t none=>match s with|.mkmap q=>qL P t==some q|_=>false
 | .mapUpdate t y k _=>match s with|.mput q x z=>qL P t==some q && aZ y x && aZ k z|_=>false
 | _=>false
theorem iR {P:Program} {t:TypeId} {d:TypeDesc→Bool} (h:jL P t d=true):∃ u,P.underlying t=some u∧d u=true:=by
 unfold jL at h
 cases hu:P.underlying t with
 | none=>simp[hu] at h
 | some u=>simp only[hu] at h;exact⟨u,rfl,h⟩
theorem qN {P:Program} {t:TypeId} {s:Nat} (h:tZ P t s=true):∃ e,P.underlying t=some (.slice e)∧iG P e=some s:=by
 unfold tZ at h
 cases hu:P.underlying t with
 | none=>simp[hu] at h
 | some u=>cases u <;> simp[hu] at h;exact⟨_,rfl,h⟩
theorem uY {P:Program} {t:TypeId} (h:jL P t (fun|.string=>true|_=>false)=true):P.underlying t=some .string:=by
 obtain⟨u,h1,h2⟩:=iR h
 cases u <;> simp at h2;exact h1
theorem NI {P:Program} {t:TypeId} (h:jL P t (fun|.bool=>true|_=>false)=true):P.underlying t=some .bool:=by
 obtain⟨u,h1,h2⟩:=iR h
 cases u <;> simp at h2;exact h1
theorem JZ {P:Program} {t:TypeId} (h:jL P t (fun|.int .u8=>true|_=>false)=true):P.underlying t=some (.int .u8):=by
 obtain⟨u,h1,h2⟩:=iR h
 cases u <;> (try simp at h2)
 rename_i k;cases k <;> simp at h2;exact h1
theorem RY {P:Program} {t:TypeId} {k:IntKind} (h:jL P t (fun|.int k'=>k'==k|_=>false)=true):P.underlying t=some (.int k):=by
 obtain⟨u,h1,h2⟩:=iR h
 cases u <;> simp at h2
 rw[h1,h2]
theorem Ap {P:Program} {t e:TypeId} (h:jL P t (fun|.slice e'=>e'==e|_=>false)=true):P.underlying t=some (.slice e):=by
 obtain⟨u,h1,h2⟩:=iR h
 cases u <;> simp at h2
 rw[h1,h2]
theorem F8 {P:Program} {t:TypeId} (h:jL P t (fun|.slice _=>true|_=>false)=true):∃ e,P.underlying t=some (.slice e):=by
 obtain⟨u,h1,h2⟩:=iR h
 cases u <;> simp at h2
 exact⟨_,h1⟩
theorem uZ:∀ {os:List Operand} {xs:List Opd},eY os xs=true→os.length=xs.length∧∀ (j:Nat) o x,os[j]?=some o→xs[j]?=some x→aZ o x=true
 | [],[],_=>⟨rfl,fun j o x h=>by simp at h⟩
 | o :: os,x :: xs,h=>by
  simp only[eY,Bool.and_eq_true] at h
  obtain⟨h1,h2⟩:=uZ h.2
  refine⟨by simp[h1],fun j o' x' ho hx=>?_⟩
  cases j with
  | zero=>simp at ho hx;subst ho;subst hx;exact h.1
  | succ j=>exact h2 j o' x' (by simpa using ho) (by simpa using hx)
 | [],_ :: _,h=>by simp[eY] at h
 | _ :: _,[],h=>by simp[eY] at h
section
variable {C:Ctx} {N:Nat} {ρ:dO} {fr:Fr} {m:bL} {n:Nat} {a:Act} {w:World} {K:Kt}
theorem J0 (R:Rel C N ρ fr m n a w) {os:List Operand} {xs:List Opd} (h:eY os xs=true):SV.isL ρ (xs.map (·.ev fr)) (os.map a.eval):=by
 obtain⟨hl,hg⟩:=uZ h
 refine SV.isL_of_get (by simp[hl]) fun j v hj=>?_
 simp at hj
 obtain⟨x,hx,rfl⟩:=hj
 have hlt:j < os.length:=by
  rcases Nat.lt_or_ge j os.length with h'|h'
  ·exact h'
  ·rw[List.getElem?_eq_none (by omega)] at hx;cases hx
 exact⟨a.eval os[j],by simp[List.getElem?_eq_getElem hlt],cU R (hg j _ x (List.getElem?_eq_getElem hlt) hx)⟩
theorem wG (R:Rel C N ρ fr m n a w) (X:CtxOk C) {f:FuncId} {args:List SV} {vals:List Value} (hv:SV.isL ρ args vals)
  (hk:aY C.P C.T f args m n K):y8 C ρ K ((callFunc f vals.toArray).run C.P w):=by
 obtain⟨hs,args0,m0,r0,m1,n1,F,rfl,hc,ha,hkb,hlt,hzs,hK⟩:=hk
 have hf:=F.fok
 unfold JR at hf
 cases hfn:C.P.funcs[f]? with
 | none=>simp[hfn] at hf
 | some fn=>
  simp only[hfn,Bool.and_eq_true,Bool.not_eq_true'] at hf
  have hbody:fn.body.isNone=false:=by
   cases hb:fn.body with
   | none=>rw[hb] at hf;simp at hf
   | some _=>rfl
  unfold callFunc
  simp only[Sem.run_bind,run_program,Result.andThen_ok,hfn,hf.1,hbody,Bool.false_eq_true,if_false,Sem.run_pure]
  show Calls C.P f vals.toArray w _
  refine (RT R.mem X R.n0 F hc ha hkb (fun i hi=>?_) hzs hv hK).mono ?_
  ·rw[UA hi];exact hlt _ (List.getElem_mem hi)
  ·rintro e w' ⟨x,he,ρ',v,m',n',h1,h2,h3,h4,h5⟩
   exact⟨x,he,ρ',v,m',n',h1,h2,h3,h4,h5⟩
theorem bV {s:Sem Value} {y:Value} {w':World} (h:s.run C.P w=.ok y w') (ho:m8 C ρ K y w') :
  y8 C ρ K ((do pure (.value (← s)):Sem Next).run C.P w):=by
 simp only[Sem.run_bind,h,Result.andThen_ok,Sem.run_pure];exact ho
theorem NK (X:CtxOk C) (R:Rel C N ρ fr m n a w) {op:BinOp} {t:TypeId} {o o':Operand} {s:SOp} (h:JY C.P op t o o' s=true)
  (hk:dP C.T (aY C.P C.T) fr m n K s) :
  ∃ z,(do eqGuard op t o o' (a.eval o) (a.eval o');binOp op t (a.eval o) (a.eval o'):Sem Value).run C.P w=.ok z w∧m8 C ρ K z w:=by
 unfold JY at h
 split at h
 ·simp only[Bool.and_eq_true,beq_iff_eq] at h
  obtain⟨⟨rfl,h2⟩,h3⟩:=h
  exact Tr (t':=t) R h2 h3 hk
 ·simp only[Bool.and_eq_true,beq_iff_eq,Bool.not_eq_true'] at h
  obtain⟨⟨⟨⟨⟨rfl,h2⟩,h3⟩,h4⟩,h5⟩,h6⟩:=h
  split at h6
  ·rename_i k hk'
   exact UB R h2 h3 (d:=20) (by omega) h4 h5 hk' hk
  ·cases h6
 ·simp only[Bool.and_eq_true,beq_iff_eq] at h
  obtain⟨⟨⟨rfl,h2⟩,h3⟩,h4⟩:=h
  exact UC R h2 h3 (NI h4) hk
 ·simp only[Bool.and_eq_true,beq_iff_eq] at h
  obtain⟨⟨⟨rfl,h2⟩,h3⟩,h4⟩:=h
  obtain⟨e,he⟩:=F8 h4
  refine ND R h2 ?_ he hk
  unfold HH at h3
  split at h3
  ·rfl
  ·cases h3
 ·simp only[Bool.and_eq_true,beq_iff_eq] at h
  obtain⟨⟨⟨rfl,h2⟩,h3⟩,h4⟩:=h
  exact RU R h2 h3 h4 hk
 ·cases h
theorem Lw (R:Rel C N ρ fr m n a w) {s d:TypeId} {o:Operand} {q:SOp} (h:F6 C.P s d o q=true)
  (hk:dP C.T (aY C.P C.T) fr m n K q) :
  ∃ z w',(convert s d (a.eval o)).run C.P w=.ok z w'∧m8 C ρ K z w':=by
 unfold F6 at h
 split at h
 ·simp only[Bool.and_eq_true] at h
  obtain⟨⟨h1,h2⟩,h3⟩:=h
  obtain⟨u,hu⟩:=Option.isSome_iff_exists.1 h2
  have hv:=cU R h1
  simp only[dP] at hk
  split at hk
  ·rename_i t he
   rw[he] at hv
   have e:=by simpa only [SV.is] using hv
   refine⟨_,w,?_,bE R hk hv⟩
   rw[e]
   have hd:=uY h3
   simp[convert,bJ hu,bJ hd]
  ·exact hk.elim
 ·simp only[Bool.and_eq_true] at h
  obtain⟨⟨h1,h2⟩,h3⟩:=h
  obtain⟨u,hu⟩:=Option.isSome_iff_exists.1 h2
  obtain⟨z,r1,r2⟩:=RD R h1 hu (RY h3) hk
  exact⟨z,w,r1,r2⟩
 ·simp only[Bool.and_eq_true] at h
  obtain⟨⟨h1,h2⟩,h3⟩:=h
  obtain⟨u,hu,hu'⟩:=iR h3
  cases u <;> simp at hu'
  obtain⟨z,r1,r2⟩:=Tw R h1 hu (JZ hu') (uY h2) hk
  exact⟨z,w,r1,r2⟩
 ·simp only[Bool.and_eq_true] at h
  obtain⟨⟨⟨h1,h2⟩,h3⟩,h4⟩:=h
  obtain⟨u,hu⟩:=Option.isSome_iff_exists.1 h2
  exact Tx R h1 hu (JZ h3) (Ap h4) hk
 ·simp only[Bool.and_eq_true,beq_iff_eq] at h
  obtain⟨⟨h1,rfl⟩,h3⟩:=h
  obtain⟨u,hu,hu'⟩:=iR h3
  cases u <;> simp at hu'
  exact Tz R h1 hu (JZ hu') hk
 ·simp only[Bool.and_eq_true] at h
  exact UD R h.1 h.2 hk
 ·cases h
theorem HI {os:Array Operand} {x:Opd} (h:eY os.toList [x]=true):∃ o,os=#[o]∧aZ o x=true:=by
 obtain⟨l⟩:=os
 match l,h with
 | [o],h=>simp[eY] at h;exact⟨o,rfl,h⟩
 | [],h=>simp[eY] at h
 | _ :: _ :: _,h=>simp[eY] at h
theorem E8 {os:Array Operand} {x y:Opd} (h:eY os.toList [x,y]=true):∃ o o',os=#[o,o']∧aZ o x=true∧aZ o' y=true:=by
 obtain⟨l⟩:=os
 match l,h with
 | [o,o'],h=>simp[eY] at h;exact⟨o,o',rfl,h.1,h.2⟩
 | [],h=>simp[eY] at h
 | [_],h=>simp[eY] at h
 | _ :: _ :: _ :: _,h=>simp[eY] at h
theorem J1 {T:List (Nat × List SV)} {P:Program} {f:FuncId} {args:List SV} (hf:SV.flatL args=true)
  (h:aY P T f args [] 0 fun v m' n'=>m'=[]∧n'=0∧v.flat=true∧K v m n):aY P T f args m n K:=by
 obtain⟨hs,args0,m0,r0,m1,n1,F,h1,h2,h3,h4,h5,h6,h7,h8,h9,Qx⟩:=h
 have h0:hs=[]:=by
  cases hs with
  | nil=>rfl
  | cons x r=>exact absurd (h5 x List.mem_cons_self) (by omega)
 subst h0
 have hm0:m0=[]:=by
  cases m0 with
  | nil=>rfl
  | cons x r=>
   obtain⟨i,B⟩:=x
   simp only[aK] at h2
   obtain⟨⟨B',hB',_⟩,_⟩:=h2
   simp[rd] at hB'
 subst hm0
 have hid:∀ i,bB [] 0 i=(i,0):=by intro i;simp[bB]
 rw[SV.renL_id _ hid] at h1
 rw[SV.ren_id _ hid] at h9 Qx
 subst h1
 have hno:∀ {η η':Nat→Nat × Nat} {q:bL},cQ η q=[]→cQ η' q=[]:=by
  intro η η' q
  induction q with
  | nil=>intro _;rfl
  | cons x r ih=>
   obtain⟨i,B⟩:=x
   unfold cQ
   cases B.kind.isOwn with
   | true=>intro h;simp at h
   | false=>intro h;exact ih h
 have hq:cQ (bB [] 0) m1=[]:=(List.append_eq_nil_iff.1 h7).1
 have hn:n1=0:=by simpa using h8
 refine⟨[],args,[],r0,m1,n1,F,(SV.flatL_ren _ _ hf).symm,trivial,trivial,trivial,by simp,?_,?_⟩
 ·have:∀ q:bL,fX (bB [] n) q:=by
   intro q
   induction q with
   | nil=>trivial
   | cons x r ih=>obtain⟨i,B⟩:=x;exact⟨fun _=>by simp[bB],ih⟩
  exact this m1
 ·rw[SV.flat_ren _ _ h9,hno hq,hn]
  simpa [bZ,qM] using Qx
theorem Lx (X:CtxOk C) (R:Rel C N ρ fr m n a w) {c:Call} {ty:TypeId} {s:SOp} (h:F7 C.P c s=true) (hk:dP C.T (aY C.P C.T) fr m n K s) :
  y8 C ρ K ((do let d ← resolve a.eval c ty;invoke d.target d.args:Sem Next).run C.P w):=by
 obtain⟨callee,args,argTypes⟩:=c
 unfold F7 at h
 split at h
 ·simp only[Bool.and_eq_true] at h
  obtain⟨h1,h2⟩:=h
  split at h1
  ·rename_i f xs g hc
   simp at h1;subst h1
   simp only[dP] at hk
   have:=wG R X (J0 R h2) (J1 hk.1 hk.2)
   have hm:args.map a.eval=(args.toList.map a.eval).toArray:=by apply Array.ext';simp
   simpa [resolve,Deferred.ofValue,Act.eval,invoke,hm] using this
  ·cases h1
 · -- a function by name
  simp only[Bool.and_eq_true] at h
  obtain⟨h1,h2⟩:=h
  split at h1
  ·rename_i f xs g hc
   simp at h1;subst h1
   simp only[dP] at hk
   have:=wG R X (J0 R h2) hk
   have hm:args.map a.eval=(args.toList.map a.eval).toArray:=by apply Array.ext';simp
   simpa [resolve,Deferred.ofValue,Act.eval,invoke,hm] using this
  ·cases h1
 ·simp only[Bool.and_eq_true] at h
  obtain⟨h1,h2⟩:=h
  split at h1
  ·rename_i xv xs o hc
   simp only[dP] at hk
   have hv:=cU R h1
   split at hk
   ·rename_i f first cap he
    rw[he] at hv
    obtain⟨as',bs',e1,e2,e3⟩:=by simpa only [SV.is] using hv
    have:=wG R X (n8 (n8 e1 (J0 R h2)) e2) hk
    have hm:args.map a.eval=(args.toList.map a.eval).toArray:=by apply Array.ext';simp
    simpa [resolve,Deferred.ofValue,e3,invoke,hm] using this
   ·exact hk.elim
  ·cases h1
 ·simp only[Bool.and_eq_true] at h
  obtain⟨⟨h1,h2⟩,h3⟩:=h
  split at h1
  ·rename_i hc
   obtain⟨o,rfl,ho⟩:=HI h2
   split at h3
   ·rename_i t ht
    obtain rfl:argTypes=_:=Array.ext' ht
    obtain⟨z,r1,r2⟩:=Tv (ty:=ty) R ho h3 hk
    simp only[resolve,Sem.run_bind,Sem.run_pure,Result.andThen_ok,invoke,builtin]
    simpa using bV r1 r2
   ·cases h3
  ·cases h1
 ·rename_i k
  simp only[Bool.and_eq_true] at h
  obtain⟨⟨h1,h2⟩,h3⟩:=h
  split at h1
  ·rename_i hc
   split at h3
   ·rename_i t ht
    obtain rfl:argTypes=_:=Array.ext' ht
    simp only[dP] at hk
    have hsz:args.size=1:=by simpa using h2
    obtain⟨o,rfl⟩:∃ o,args=#[o]:=by
     obtain⟨l⟩:=args
     match l,hsz with
     | [o],_=>exact⟨o,rfl⟩
    have hr:(Builtin.len_ #[t] ty #[a.eval o]).run C.P w=.ok (goInt k) w:=by
     unfold Cf at h3
     cases hu:C.P.underlying t with
     | none=>simp[hu] at h3
     | some d=>
      cases d <;> simp[hu] at h3
      case array n' e=>subst h3;simp[Builtin.len_,bJ hu]
      case pointer u=>
       cases hu':C.P.underlying u with
       | none=>simp[hu'] at h3
       | some d'=>cases d' <;> simp[hu'] at h3;subst h3;simp[Builtin.len_,bJ hu,bJ hu']
    simp only[resolve,Sem.run_bind,Sem.run_pure,Result.andThen_ok,invoke,builtin]
    simpa using bV hr (bE R hk (by simp[SV.is,goInt]))
   ·cases h3
  ·cases h1
 ·simp only[Bool.and_eq_true] at h
  obtain⟨⟨h1,h2⟩,h3⟩:=h
  split at h1
  ·rename_i hc
   obtain⟨o,o',rfl,ho,ho'⟩:=E8 h2
   split at h3
   ·rename_i t u ht
    obtain rfl:argTypes=_:=Array.ext' ht
    obtain⟨z,w',r1,r2⟩:=Ty (ty:=ty) R ho ho' h3 hk
    simp only[resolve,Sem.run_bind,Sem.run_pure,Result.andThen_ok,invoke,builtin]
    simpa using bV r1 r2
   ·cases h3
  ·cases h1
 ·simp only[Bool.and_eq_true,bne_iff_ne,ne_eq] at h
  obtain⟨⟨⟨h1,h2⟩,h4⟩,h3⟩:=h
  split at h1
  ·rename_i hc
   obtain⟨o,o',rfl,ho,ho'⟩:=E8 h2
   split at h3
   ·rename_i t u ht
    obtain rfl:argTypes=_:=Array.ext' ht
    obtain⟨e,q1,q2⟩:=qN h3
    obtain⟨z,w',r1,r2⟩:=RL (ty:=ty) (u:=u) R ho ho' q1 q2 h4 hk
    simp only[resolve,Sem.run_bind,Sem.run_pure,Result.andThen_ok,invoke,builtin]
    simpa using bV r1 r2
   ·cases h3
  ·cases h1
 ·simp only[Bool.and_eq_true] at h
  obtain⟨⟨h1,h2⟩,h3⟩:=h
  split at h1
  ·rename_i hc
   obtain⟨o,rfl,ho⟩:=HI h2
   split at h3
   ·rename_i t ht
    obtain rfl:argTypes=_:=Array.ext' ht
    obtain⟨u,hu,hu'⟩:=iR h3
    cases u <;> simp at hu'
    obtain⟨z,r1,r2⟩:=RO (ty:=ty) R ho hu hk
    simp only[resolve,Sem.run_bind,Sem.run_pure,Result.andThen_ok,invoke,builtin]
    simpa using bV r1 r2
   ·cases h3
  ·cases h1
 ·simp only[Bool.and_eq_true] at h
  obtain⟨⟨h1,h2⟩,h3⟩:=h
  split at h1
  ·rename_i hc
   obtain⟨o,rfl,ho⟩:=HI h2
   split at h3
   ·rename_i t ht
    obtain rfl:argTypes=_:=Array.ext' ht
    obtain⟨u,hu,hu'⟩:=iR h3
    cases u <;> simp at hu'
    obtain⟨z,r1,r2⟩:=RQ (ty:=ty) R ho hu hk
    simp only[resolve,Sem.run_bind,Sem.run_pure,Result.andThen_ok,invoke,builtin]
    simpa using bV r1 r2
   ·cases h3
  ·cases h1
 ·simp only[Bool.and_eq_true] at h
  obtain⟨⟨h1,h2⟩,h3⟩:=h
  split at h1
  ·rename_i hc
   obtain⟨o,o',rfl,ho,ho'⟩:=E8 h2
   split at h3
   ·rename_i t u ht
    obtain rfl:argTypes=_:=Array.ext' ht
    obtain⟨z,w',r1,r2⟩:=RS (ty:=ty) R ho ho' h3 hk
    simp only[resolve,Sem.run_bind,Sem.run_pure,Result.andThen_ok,invoke,builtin]
    simpa using bV r1 r2
   ·cases h3
  ·cases h1
 ·simp only[Bool.and_eq_true] at h
  obtain⟨h1,h2⟩:=h
  split at h1
  ·rename_i hc
   obtain⟨o,o',rfl,ho,ho'⟩:=E8 h2
   obtain⟨z,r1,r2⟩:=WC R ho ho' hk argTypes ty
   simp only[resolve,Sem.run_bind,Sem.run_pure,Result.andThen_ok,invoke,builtin]
   simpa using bV r1 r2
  ·cases h1
 ·simp only[Bool.and_eq_true] at h
  obtain⟨h1,h2⟩:=h
  split at h1
  ·rename_i hc
   obtain⟨o,o',rfl,ho,ho'⟩:=E8 h2
   obtain⟨z,r1,r2⟩:=WD R ho ho' hk argTypes ty
   simp only[resolve,Sem.run_bind,Sem.run_pure,Result.andThen_ok,invoke,builtin]
   simpa using bV r1 r2
  ·cases h1
 ·simp only[Bool.and_eq_true] at h
  obtain⟨h1,h2⟩:=h
  split at h1
  ·rename_i f x g hc
   simp only[Bool.and_eq_true,beq_iff_eq] at h1
   obtain⟨rfl,h3⟩:=h1
   obtain⟨o,rfl,ho⟩:=HI h2
   have hv:=cU R ho
   simp only[dP] at hk
   have hr:=Lv h3 (a.eval o) w
   have this:y8 C ρ K ((callFunc hc #[a.eval o]).run C.P w):=by
    rw[hr]
    exact bE R hk hv
   simpa [resolve,Deferred.ofValue,Act.eval,invoke] using this
  ·cases h1
 ·simp only[Bool.and_eq_true,bne_iff_ne,ne_eq] at h
  obtain⟨⟨h1,h2⟩,h3⟩:=h
  split at h1
  ·rename_i hc
   obtain⟨o,rfl,ho⟩:=HI h2
   obtain⟨z,r1,r2⟩:=RW (ts:=argTypes) (ty:=ty) R ho h3 hk
   simp only[resolve,Sem.run_bind,Sem.run_pure,Result.andThen_ok,invoke,builtin]
   simpa using bV r1 r2
  ·cases h1
 ·simp only[Bool.and_eq_true] at h
  obtain⟨⟨h1,h2⟩,h3⟩:=h
  split at h1
  ·rename_i hc
   obtain⟨o,o',rfl,ho,ho'⟩:=E8 h2
   split at h3
   ·rename_i t u ht
    obtain rfl:argTypes=_:=Array.ext' ht
    split at h3
    ·rename_i e' hu
     simp only[Bool.and_eq_true,beq_iff_eq] at h3
     obtain⟨rfl,h4⟩:=h3
     obtain⟨z,w',r1,r2⟩:=RX (it:=u) (ty:=ty) R ho ho' hu h4 hk
     simp only[resolve,Sem.run_bind,Sem.run_pure,Result.andThen_ok,invoke,builtin]
     simpa using bV r1 r2
    ·cases h3
   ·cases h3
  ·cases h1
 ·cases h
end
section
variable {C:Ctx} {N:Nat} {ρ:dO} {fr:Fr} {m:bL} {n:Nat} {a:Act} {w:World} {K:Kt}
theorem E9 {s:Sem Unit} {w':World} (h:s.run C.P w=.ok () w') (ho:m8 C ρ K undef w') :
  y8 C ρ K ((do s;pure .skip:Sem Next).run C.P w):=by
 simp only[Sem.run_bind,h,Result.andThen_ok,Sem.run_pure];exact ho
theorem WE (X:CtxOk C) (R:Rel C N ρ fr m n a w) {o:Oper} {s:SOp} (h:NH C.P o.op s=true) (hk:dP C.T (aY C.P C.T) fr m n K s) :
  y8 C ρ K ((execOp a.eval o).run C.P w):=by
 obtain⟨dst,op,ty,pos,aft,guard⟩:=o
 simp only at h
 unfold execOp
 unfold NH at h
 split at h
 ·split at h
  ·simp only[dP] at hk
   exact bE R hk (cU R h)
  ·cases h
 ·split at h
  ·simp only[dP] at hk
   exact bE R hk (cU R h)
  ·cases h
 ·split at h
  ·simp only[Bool.and_eq_true] at h
   obtain⟨⟨h1,h2⟩,h3⟩:=h
   obtain⟨b,hb,ho⟩:=RE R h1 h2 h3 hk
   simp only[hb,asBool,Sem.run_bind,Sem.run_pure,Result.andThen_ok]
   exact ho
  ·cases h
 ·split at h
  ·simp only[Bool.and_eq_true,beq_iff_eq] at h
   obtain⟨rfl,h2⟩:=h
   obtain⟨z,w',r1,r2⟩:=Ts R h2 hk
   exact bV r1 r2
  ·cases h
 ·split at h
  ·simp only[Bool.and_eq_true,beq_iff_eq] at h
   obtain⟨rfl,h2⟩:=h
   obtain⟨z,w',r1,r2⟩:=Tt R h2 hk
   exact bV r1 r2
  ·cases h
 ·split at h
  ·simp only[Bool.and_eq_true] at h
   obtain⟨⟨h1,h2⟩,h3⟩:=h
   split at h3
   ·rename_i place hp
    obtain⟨z,r1,r2⟩:=Mx R h1 hp h2 h3 hk
    exact bV r1 r2
   ·cases h3
  ·cases h
 ·split at h
  ·simp only[Bool.and_eq_true,beq_iff_eq,decide_eq_true_eq] at h
   obtain⟨⟨⟨⟨⟨⟨rfl,h2⟩,h3⟩,h0⟩,h4⟩,h5⟩,h6⟩:=h
   split at h4
   ·rename_i zv hz
    obtain⟨z,w',r1,r2⟩:=Lr R (Ap h2) h3 (by simpa using h0) (fun _=>hz) h4 h5 h6 hk
    exact bV r1 r2
   ·cases h4
  ·cases h
 ·split at h
  ·simp only[Bool.and_eq_true,beq_iff_eq] at h
   obtain⟨z,r1,r2⟩:=KD X R h.2 h.1 rfl hk
   exact bV r1 r2
  ·cases h
 ·split at h
  ·simp only[Bool.and_eq_true,beq_iff_eq] at h
   obtain⟨⟨h1,h2⟩,h3⟩:=h
   obtain⟨w',r1,r2⟩:=Mw R h2 h3 h1 hk
   exact E9 r1 r2
  ·cases h
 ·split at h
  ·obtain⟨⟨i,hi⟩,ho⟩:=RG R h hk
   rename_i y x _
   simp only
   rcases hi with hi|⟨f,p,q,hi⟩
   ·rw[hi] at ho ⊢;exact ho
   ·rw[hi] at ho ⊢;exact ho
  ·cases h
 ·split at h
  ·simp only[Bool.and_eq_true] at h
   obtain⟨h1,h2⟩:=h
   split at h2
   ·rename_i fs hu
    split at h2
    ·rename_i fd hf
     simp only[Bool.and_eq_true,beq_iff_eq] at h2
     obtain⟨rfl,h3⟩:=h2
     split at h3
     ·rename_i k hs
      obtain⟨z,r1,r2⟩:=Tp R h1 hu hf hs (by simpa using h3) hk
      exact bV r1 r2
     ·cases h3
    ·cases h2
   ·cases h2
  ·cases h
 ·split at h
  ·simp only[Bool.and_eq_true] at h
   obtain⟨h1,h2⟩:=h
   split at h2
   ·rename_i fs hu
    split at h2
    ·rename_i fd hf
     simp only[Bool.and_eq_true,beq_iff_eq] at h2
     obtain⟨rfl,h3⟩:=h2
     obtain⟨z,r1,r2⟩:=Lq R h1 hu hf h3 hk
     exact bV r1 r2
    ·cases h2
   ·cases h2
  ·cases h
 ·split at h
  ·simp only[Bool.and_eq_true] at h
   obtain⟨⟨h1,h2⟩,h3⟩:=h
   split at h3
   ·rename_i n' e hu
    simp only[Bool.and_eq_true,beq_iff_eq] at h3
    obtain⟨rfl,h4⟩:=h3
    obtain⟨z,r1,r2⟩:=Qz R h1 h2 hu h4 hk
    exact bV r1 r2
   ·cases h3
  ·simp only[Bool.and_eq_true] at h
   obtain⟨⟨h1,h2⟩,h3⟩:=h
   obtain⟨e,q1,q2⟩:=qN h3
   obtain⟨z,r1,r2⟩:=RA R h1 h2 q1 q2 hk
   exact bV r1 r2
  ·cases h
 ·split at h
  ·simp only[Bool.and_eq_true] at h
   obtain⟨⟨h1,h2⟩,h3⟩:=h
   split at h3
   ·rename_i n' e hu
    simp only[Bool.and_eq_true,beq_iff_eq] at h3
    obtain⟨⟨rfl,h4⟩,h5⟩:=h3
    obtain⟨z,r1,r2⟩:=RB R h1 h2 hu h4 h5 rfl hk
    exact bV r1 r2
   ·cases h3
  ·simp only[Bool.and_eq_true] at h
   obtain⟨⟨h1,h2⟩,h3⟩:=h
   obtain⟨z,r1,r2⟩:=RC R h1 h2 (uY h3) hk
   exact bV r1 r2
  ·cases h
 ·obtain⟨z,r1,r2⟩:=NK X R h hk
  exact bV r1 r2
 ·split at h
  ·simp only[Bool.and_eq_true,beq_iff_eq] at h
   obtain⟨rfl,h2⟩:=h
   obtain⟨z,r1,r2⟩:=WA R h2 hk
   exact bV r1 r2
  ·cases h
 ·obtain⟨z,w',r1,r2⟩:=Lw R h hk
  exact bV r1 r2
 ·split at h
  ·simp only[Bool.and_eq_true,beq_iff_eq] at h
   obtain⟨⟨rfl,h2⟩,h3⟩:=h
   obtain⟨q1,q2⟩:=uZ h2
   obtain⟨q3,q4⟩:=uZ h3
   obtain⟨z,r1,r2⟩:=RF R q1 q3 q2 q4 hk
   exact bV r1 r2
  ·cases h
 ·split at h
  ·simp only[Bool.and_eq_true] at h
   obtain⟨⟨⟨⟨h0,h1⟩,h2⟩,h3⟩,h4⟩:=h
   split at h4
   ·rename_i i hi
    simp only[Bool.and_eq_true,beq_iff_eq] at h4
    obtain⟨⟨h5,h6⟩,h7⟩:=h4
    split at h7
    ·rename_i zv hz
     simp only[Bool.and_eq_true,beq_iff_eq] at h7
     obtain⟨z,w',r1,r2⟩:=RK R h2 h3 (Ap h1) hi h5 h6 hz h7.1 h7.2 (by simpa using h0) hk
     exact bV r1 r2
    ·cases h7
   ·cases h4
  ·cases h
 ·split at h
  ·simp only[Bool.and_eq_true,bne_iff_ne,ne_eq] at h
   obtain⟨⟨⟨⟨h1,h2⟩,h3⟩,h4⟩,h5⟩:=h
   obtain⟨e,q1,q2⟩:=qN h4
   obtain⟨z,r1,r2⟩:=RH R h1 h2 h3 q1 q2 h5 hk
   exact bV r1 r2
  ·simp only[Bool.and_eq_true] at h
   obtain⟨⟨⟨h1,h2⟩,h3⟩,h4⟩:=h
   split at h4
   ·rename_i n' e hu
    simp only[Bool.and_eq_true,beq_iff_eq] at h4
    obtain⟨rfl,h5⟩:=h4
    obtain⟨z,r1,r2⟩:=RI R h1 h2 h3 hu h5 hk
    exact bV r1 r2
   ·cases h4
  ·simp only[Bool.and_eq_true] at h
   obtain⟨⟨⟨h1,h2⟩,h3⟩,h4⟩:=h
   obtain⟨z,r1,r2⟩:=RJ R h1 h2 h3 (uY h4) hk
   exact bV r1 r2
  ·cases h
 ·split at h
  ·simp only[Bool.and_eq_true] at h
   obtain⟨h1,h2⟩:=h
   split at h2
   ·rename_i n' e hu
    simp only[beq_iff_eq] at h2;subst h2
    obtain⟨z,r1,r2⟩:=Mz R h1 hu hk
    exact bV r1 r2
   ·cases h2
  ·cases h
 ·split at h
  ·simp only[Bool.and_eq_true,beq_iff_eq] at h
   obtain⟨h1,rfl⟩:=h
   obtain⟨z,r1,r2⟩:=Tu R h1 hk
   exact bV r1 r2
  ·cases h
 ·exact Lx X R h hk
 ·split at h
  ·simp only[beq_iff_eq] at h
   obtain⟨z,w',r1,r2⟩:=NB (t:=_) R hk
   exact bV r1 r2
  ·cases h
 ·split at h
  ·simp only[Bool.and_eq_true,beq_iff_eq] at h
   obtain⟨⟨h1,h2⟩,h3⟩:=h
   obtain⟨w',r1,r2⟩:=RP R h2 h3 h1 hk
   exact E9 r1 r2
  ·cases h
 ·cases h
theorem F9 {fr:Fr} {d:Nat} {x:Nat × SV} (h:x∈fF fr d):x∈fr∧x.1≠d:=by
 induction fr with
 | nil=>simp[fF] at h
 | cons y r ih=>
  obtain⟨e,v⟩:=y
  unfold fF at h
  split at h
  ·exact⟨List.mem_cons_of_mem _ (ih h).1,(ih h).2⟩
  ·rename_i hne
   rcases List.mem_cons.1 h with h|h
   ·subst h;exact⟨List.mem_cons_self,hne⟩
   ·exact⟨List.mem_cons_of_mem _ (ih h).1,(ih h).2⟩
theorem wI {ds:List Nat}:∀ {fr:Fr} {x:Nat × SV},x∈aU fr ds→x∈fr∧x.1 ∉ ds:=by
 induction ds with
 | nil=>intro fr x h;exact⟨h,by simp⟩
 | cons d ds ih=>
  intro fr x h
  obtain⟨h1,h2⟩:=ih h
  obtain⟨h3,h4⟩:=F9 h1
  exact⟨h3,by simp;exact⟨h4,h2⟩⟩
theorem NL {ρ':dO} (hfr:∀ d v,(d,v)∈fr→∃ x,a.tmps[d]?=some x∧v.is ρ x) (hle:ρ.le ρ') (hN:a.tmps.size=N) {dst:Option Nat} (hd:∀ d,dst=some d→d < N)
  {v:SV} {y:Value} (hv:v.is ρ' y) (ks:List Nat) :
  ∀ d u,(d,u)∈aU (bQ fr dst v) ks→∃ x,(a.put dst y).tmps[d]?=some x∧u.is ρ' x:=by
 intro d u h
 have h1:=(wI h).1
 unfold bQ at h1
 cases dst with
 | none=>
  obtain⟨x,e1,e2⟩:=hfr d u h1
  exact⟨x,e1,SV.is_mono hle u x e2⟩
 | some t=>
  simp only[put] at h1
  rcases List.mem_cons.1 h1 with h1|h1
  ·cases h1
   refine⟨y,?_,hv⟩
   have:=hd d rfl
   simp[Act.put,hN,this]
  ·obtain⟨h2,h3⟩:=F9 h1
   obtain⟨x,e1,e2⟩:=hfr d u h2
   refine⟨x,?_,SV.is_mono hle u x e2⟩
   simp only[Act.put]
   rw[Array.getElem?_setIfInBounds_ne (Ne.symm h3)];exact e1
theorem wJ (a:Act) (dst:Option Nat) (y:Value):(a.put dst y).tmps.size=a.tmps.size:=by
 cases dst <;> simp[Act.put]
theorem qP (a:Act) (dst:Option Nat) (y:Value):(a.put dst y).defers=a.defers:=by
 cases dst <;> rfl
def u0 (ops:List Oper) (o:Oper) (g:Option (Nat × Bool)):Bool:=
 match o.guard,g with
 | none,none=>true
 | some (j,b),some (d,b')=>((ops[j]?).bind (·.dst))==some d && b==b'
 | _,_=>false
def pI (P:Program) (N:Nat) (all:List Oper):List Oper→List Opr→Bool
 | [],[]=>true
 | o :: os,q :: qs=>o.dst==q.dst && (match o.dst with|some d=>decide (d < N)|none=>true) && u0 all o q.guard && NH P o.op q.op && pI P N all os qs
 | _,_=>false
theorem t7 {g:Nat} {t:Bool} (R:Rel C N ρ fr m n a w) (h:get fr g=.bool t):a.tmps[g]?=some (.bool t):=by
 rcases F3 (fr:=fr) (d:=g) with e|e
 ·rw[h] at e;cases e
 ·obtain⟨x,h1,h2⟩:=R.fr _ _ e
  rw[h] at h2
  simp only[SV.is] at h2;rw[h1,h2]
theorem xW {g:Nat} {vs:Array Value} (R:Rel C N ρ fr m n a w) (h:get fr g=.val (.tuple vs)):a.tmps[g]?=some (.tuple vs):=by
 rcases F3 (fr:=fr) (d:=g) with e|e
 ·rw[h] at e;cases e
 ·obtain⟨x,h1,h2⟩:=R.fr _ _ e
  rw[h] at h2
  simp only[SV.is] at h2;rw[h1,h2]
theorem oT {o:Oper} {y:Nat→Option Bool} (h:o.guard=none):Region.wanted o y=true:=by unfold Region.wanted;rw[h]
theorem mT {ops:List Oper} {o:Oper} {j d:Nat} {b t:Bool} (h:o.guard=some (j,b)) (hj:((ops[j]?).bind (·.dst))=some d) (ht:a.tmps[d]?=some (.bool t)) :
  Region.wanted o (yielded ops.toArray a.tmps)=(t==b):=by
 unfold Region.wanted;rw[h]
 simp only[yielded,List.getElem?_toArray,hj,Option.bind_some,ht]
 cases t <;> cases b <;> rfl
theorem pQ {ops:List Oper} {o:Oper} {j d:Nat} {b:Bool} {vs:Array Value} (h:o.guard=some (j,b)) (hj:((ops[j]?).bind (·.dst))=some d) (ht:a.tmps[d]?=some (.tuple vs)) :
  Region.wanted o (yielded ops.toArray a.tmps)=false:=by
 unfold Region.wanted;rw[h]
 simp only[yielded,List.getElem?_toArray,hj,Option.bind_some,ht]
 rfl
theorem BZ (X:CtxOk C) (R:Rel C N ρ fr m n a w) {o:Oper} {s:SOp} (h:NH C.P o.op s=true) (hk:dP C.T (aY C.P C.T) fr m n K s)
  {next:Act→World→Prop} {Q:Exit→Act→World→Prop}
  (hn:∀ y w' ρ' v m' n',ρ.le ρ'→K v m' n'→v.is ρ' y→MemOk C ρ' m' n' w'→C.n0≤n'→next (a.put o.dst y) w'):o.wp C.P a w next Q:=by
 have hp:=WE X R h hk
 unfold Oper.wp
 generalize (execOp a.eval o).run C.P w=r at hp
 cases r with
 | halt x w'=>cases hp
 | ok z w'=>
  cases z <;> simp only[y8] at hp
  case value y=>
   obtain⟨ρ',v,m',n',h1,h2,h3,h4,h5⟩:=hp
   exact hn y w' ρ' v m' n' h1 h2 h3 h4 h5
  case skip=>
   obtain⟨ρ',v,m',n',h1,h2,h3,h4,h5⟩:=hp
   exact hn undef w' ρ' v m' n' h1 h2 h3 h4 h5
  case enter f args=>
   rw[Oper.upon_enter]
   refine hp.mono ?_
   rintro e w'' ⟨x,rfl,ρ',v,m',n',h1,h2,h3,h4,h5⟩
   exact hn x w'' ρ' v m' n' h1 h2 h3 h4 h5
theorem NM (X:CtxOk C) {all:List Oper} {Q:Exit→Act→World→Prop}:∀ (os:List Oper) (qs:List Opr) (fr:Fr) (m:bL) (n:Nat) (ρ:dO) (a:Act) (w:World) (F:Fr→bL→Nat→Prop),
  pI C.P N all os qs=true→z6 C.T (aY C.P C.T) qs fr m n F→Rel C N ρ fr m n a w →
  (∀ ρ' fr' m' n' a' w',F fr' m' n'→Rel C N ρ' fr' m' n' a' w'→Q .normal a' w')→wpList C.P all.toArray Q os a w
 | [],[],fr,m,n,ρ,a,w,F,_,hF,R,hQ=>hQ ρ fr m n a w hF R
 | o :: os,q :: qs,fr,m,n,ρ,a,w,F,hc,hF,R,hQ=>by
  simp only[pI,Bool.and_eq_true,beq_iff_eq] at hc
  obtain⟨⟨⟨⟨c1,c2⟩,c3⟩,c4⟩,c5⟩:=hc
  have hd:∀ d,o.dst=some d→d < N:=fun d hd=>by rw[hd] at c2;simpa using c2
  have step:∀ y w' ρ' v m' n',ρ.le ρ'→z6 C.T (aY C.P C.T) qs (aU (bQ fr q.dst v) q.kill) m' n' F→v.is ρ' y→MemOk C ρ' m' n' w'→C.n0≤n' →
    wpList C.P all.toArray Q os (a.put o.dst y) w':=by
   intro y w' ρ' v m' n' h1 h2 h3 h4 h5
   refine NM X os qs _ m' n' ρ' _ w' F c5 h2 ⟨?_,h4,by rw[qP];exact R.defers,by rw[wJ];exact R.size,h5⟩ hQ
   rw[← c1]
   exact NL R.fr h1 R.size hd h3 q.kill
  unfold u0 at c3
  simp only[z6] at hF
  cases hg:q.guard with
  | none=>
   simp only[hg] at hF
   have hog:o.guard=none:=by
    cases h:o.guard with
    | none=>rfl
    | some x=>simp[h,hg] at c3
   unfold wpList
   rw[if_pos (oT hog)]
   exact .inl (BZ X R c4 hF step)
  | some gb=>
   obtain⟨g,b⟩:=gb
   simp only[hg] at hF
   obtain⟨j,hog,hj⟩:∃ j,o.guard=some (j,b)∧((all[j]?).bind (·.dst))=some g:=by
    cases h:o.guard with
    | none=>simp[h,hg] at c3
    | some x=>
     obtain⟨j,b'⟩:=x
     simp only[h,hg,Bool.and_eq_true,beq_iff_eq] at c3
     exact⟨j,by rw[c3.2],c3.1⟩
   have skip:z6 C.T (aY C.P C.T) qs (aU (bQ fr q.dst (.val undef)) q.kill) m n F→wpList C.P all.toArray Q os (a.put o.dst undef) w:=
    fun h=>step undef w ρ (.val undef) m n (dO.le_refl _) h (by simp only[SV.is]) R.mem R.n0
   unfold wpList
   split at hF
   ·rename_i t ht
    have hw:=mT (a:=a) hog hj (t7 R ht)
    by_cases htb:t=b
    ·rw[if_pos (by rw[hw,htb];simp)]
     exact .inl (BZ X R c4 (hF.1 htb) step)
    ·have:t=!b:=by cases t <;> cases b <;> simp_all
     rw[if_neg (by rw[hw];simpa using htb)]
     exact skip (hF.2 this)
   ·rename_i vs ht
    have hw:=pQ (a:=a) hog hj (xW R ht)
    rw[if_neg (by rw[hw];simp)]
    exact skip hF
   ·exact hF.elim
 | [],_ :: _,_,_,_,_,_,_,_,hc,_,_,_=>by simp[pI] at hc
 | _ :: _,[],_,_,_,_,_,_,_,hc,_,_,_=>by simp[pI] at hc
end
def lV (call:bG):Prop:=∀ f args m n K,call f args m n K→∃ v m' n',K v m' n'∧∀ K':Kt,K' v m' n'→call f args m n K'
theorem aN (P:Program) (T:List (Nat × List SV)):lV (aY P T):=by
 intro f args m n K h
 obtain⟨hs,args0,m0,r0,m1,n1,F,h1,h2,h3,h4,h5,h6,hK⟩:=h
 exact⟨_,_,_,hK,fun K' k=>⟨hs,args0,m0,r0,m1,n1,F,h1,h2,h3,h4,h5,h6,k⟩⟩
theorem sE {fr:Fr}:∀ (cs:List SV) (ps:List (Nat × Nat × Opd)) (F:List SV→Prop),rY fr cs ps F→∃ r,F r∧rY fr cs ps (fun x=>x=r)
 | cs,[],F,h=>⟨cs,h,rfl⟩
 | cs,(off,size,x) :: r,F,h=>by
  simp only[rY] at h
  obtain⟨l,h1,h2,h3,h4⟩:=h
  obtain⟨q,h5,h6⟩:=sE _ r F h4
  exact⟨q,h5,by simp only[rY];exact⟨l,h1,h2,h3,h6⟩⟩
theorem u6 {fr:Fr} {F G:List SV→Prop} (hFG:∀ x,F x→G x):∀ (cs:List SV) (ps:List (Nat × Nat × Opd)),rY fr cs ps F→rY fr cs ps G
 | cs,[],h=>hFG cs h
 | cs,(off,size,x) :: r,h=>by
  simp only[rY] at h ⊢
  obtain⟨l,h1,h2,h3,h4⟩:=h
  exact⟨l,h1,h2,h3,u6 hFG _ r h4⟩
theorem J2 {op:BinOp} {k k':IntKind} {a b:Int} {F:SV→Prop} (h:cL op k k' a b F):∃ v,F v∧∀ G:SV→Prop,G v→cL op k k' a b G:=by
 unfold cL at h ⊢
 cases op <;> simp only at h ⊢
 case quo=>exact⟨_,h.2.2,fun G g=>⟨h.1,h.2.1,g⟩⟩
 case rem=>exact⟨_,h.2.2,fun G g=>⟨h.1,h.2.1,g⟩⟩
 all_goals exact⟨_,h.2,fun G g=>⟨h.1,g⟩⟩
theorem J3 {op:BinOp} {a b:List UInt8} {F:SV→Prop} (h:nX op a b F):∃ v,F v∧∀ G:SV→Prop,G v→nX op a b G:=by
 unfold nX at h ⊢
 cases op <;> simp only at h ⊢
 case add=>exact⟨_,h.2,fun G g=>⟨h.1,g⟩⟩
 all_goals first|exact h.elim|exact⟨_,h,fun G g=>g⟩
theorem J4 {op:BinOp} {x y:SV} {F:SV→Prop} (h:Gu op x y F):∃ v,F v∧∀ G:SV→Prop,G v→Gu op x y G:=by
 unfold Gu at h ⊢
 split at h
 ·exact J2 h
 ·exact J3 h
 ·exact h.elim
theorem HJ {α:Type} {v:SV} {F:Int→Prop} (h:iF v F):∃ i,F i∧∀ G:Int→Prop,G i→iF v G:=by
 unfold iF at h ⊢
 split at h
 ·exact⟨_,h,fun G g=>g⟩
 ·exact h.elim
theorem oU {v:SV} {F:Int→Prop} (h:iF v F):∃ i,F i∧∀ G:Int→Prop,G i→iF v G:=HJ (α:=Unit) h
theorem Ly {v:SV} {F:Bool→Prop} (h:nZ v F):∃ i,F i∧∀ G:Bool→Prop,G i→nZ v G:=by
 unfold nZ at h ⊢
 split at h
 ·exact⟨_,h,fun G g=>g⟩
 ·exact h.elim
theorem oV {fr:Fr} {x:Option Opd} {d:Int} {F:Int→Prop} (h:iK fr x d F):∃ i,F i∧∀ G:Int→Prop,G i→iK fr x d G:=by
 unfold iK at h ⊢
 cases x with
 | none=>exact⟨d,h,fun G g=>g⟩
 | some o=>exact oU h
theorem HK {m:bL} {s:Nat} {v:SV} {F:Nat→List SV→Prop} (h:vS m s v F):∃ k l,F k l∧∀ G:Nat→List SV→Prop,G k l→vS m s v G:=by
 unfold vS at h ⊢
 split at h
 ·obtain⟨h1,B,h2,h3,h4⟩:=h
  exact⟨_,_,h4,fun G g=>⟨h1,B,h2,h3,g⟩⟩
 ·exact⟨_,_,h,fun G g=>g⟩
 ·exact⟨_,_,h,fun G g=>g⟩
 ·exact h.elim
theorem HL {m:bL} {s:Nat} {v:SV} {F:Nat→List SV→Prop} (h:vT m s v F):∃ k l,F k l∧∀ G:Nat→List SV→Prop,G k l→vT m s v G:=by
 unfold vT at h ⊢
 split at h
 ·exact⟨_,_,h.2,fun G g=>⟨h.1,g⟩⟩
 ·exact HK h
theorem t8 {T:List (Nat × List SV)} {call:bG} (hc:lV call) {fr:Fr} {m:bL} {n:Nat} {K:Kt} {s:SOp} (h:dP T call fr m n K s) :
  ∃ v m' n',K v m' n'∧∀ K':Kt,K' v m' n'→dP T call fr m n K' s:=by
 cases s <;> simp only[dP] at h ⊢
 case mv=>exact⟨_,_,_,h,fun K' k=>k⟩
 case pick=>
  obtain⟨b,h1,h2⟩:=Ly h
  cases b
  ·exact⟨_,_,_,h1.2 rfl,fun K' k=>h2 _ ⟨(fun h=>by cases h),fun _=>k⟩⟩
  ·exact⟨_,_,_,h1.1 rfl,fun K' k=>h2 _ ⟨fun _=>k,(fun h=>by cases h)⟩⟩
 case new=>exact⟨_,_,_,h,fun K' k=>k⟩
 case box=>
  obtain⟨l,h1,h2⟩:=h
  exact⟨_,_,_,h2,fun K' k=>⟨l,h1,k⟩⟩
 case build z ps=>
  obtain⟨r,h1,h2⟩:=sE _ _ _ h
  exact⟨_,_,_,h1,fun K' k=>u6 (fun x hx=>by subst hx;exact k) _ _ h2⟩
 case bslice e sz k z ps=>
  obtain⟨r,h1,h2⟩:=sE _ _ _ h
  exact⟨_,_,_,h1,fun K' k=>u6 (fun x hx=>by subst hx;exact k) _ _ h2⟩
 case load g x=>
  split at h
  ·obtain⟨B,h1,h2⟩:=h
   cases g with
   | none=>obtain⟨v,h3,h4⟩:=h2;exact⟨_,_,_,h4,fun K' k=>⟨B,h1,v,h3,k⟩⟩
   | some k=>exact⟨_,_,_,h2.2,fun K' k=>⟨B,h1,h2.1,k⟩⟩
  ·obtain⟨cs,h1,h2⟩:=h
   cases g with
   | none=>obtain⟨v,h3,h4⟩:=h2;exact⟨_,_,_,h4,fun K' k=>⟨cs,h1,v,h3,k⟩⟩
   | some k=>exact⟨_,_,_,h2.2,fun K' k=>⟨cs,h1,h2.1,k⟩⟩
  ·exact h.elim
 case store=>
  split at h
  ·obtain⟨B,e,l,h1,h2,h3,h4,h5,h6⟩:=h
   exact⟨_,_,_,h6,fun K' k=>⟨B,e,l,h1,h2,h3,h4,h5,k⟩⟩
  ·exact h.elim
 case nilc=>split at h <;> first|exact h.elim|exact⟨_,_,_,h,fun K' k=>k⟩
 case fld=>split at h <;> first|exact h.elim|exact⟨_,_,_,h,fun K' k=>k⟩
 case idxA=>
  obtain⟨i,⟨h1,h2,h3⟩,hG⟩:=oU h
  split at h3
  ·rename_i he;simp only[he] at *;exact⟨_,_,_,h3,fun K' k=>hG _ ⟨h1,h2,k⟩⟩
  ·rename_i he;simp only[he] at *;exact⟨_,_,_,h3,fun K' k=>hG _ ⟨h1,h2,k⟩⟩
  ·exact h3.elim
 case idxS=>
  obtain⟨i,h3,hG⟩:=oU h
  split at h3
  ·rename_i he;simp only[he] at *
   obtain⟨h1,h2,h4,B,h5,h6,h7⟩:=h3
   exact⟨_,_,_,h7,fun K' k=>hG _ ⟨h1,h2,h4,B,h5,h6,k⟩⟩
  ·exact h3.elim
 case idxV x i len s agg=>
  obtain⟨i,⟨h1,h2,h3⟩,hG⟩:=oU h
  split at h3
  ·rename_i he;simp only[he] at *
   cases agg
   ·obtain⟨v,h4,h5⟩:=h3;exact⟨_,_,_,h5,fun K' k=>hG _ ⟨h1,h2,v,h4,k⟩⟩
   ·exact⟨_,_,_,h3,fun K' k=>hG _ ⟨h1,h2,k⟩⟩
  ·exact h3.elim
 case idxT=>
  obtain⟨i,⟨h1,h3⟩,hG⟩:=oU h
  split at h3
  ·rename_i he;simp only[he] at *
   obtain⟨c,h4,h5⟩:=h3
   exact⟨_,_,_,h5,fun K' k=>hG _ ⟨h1,c,h4,k⟩⟩
  ·exact h3.elim
 case fieldV x off agg=>
  split at h
  ·cases agg with
   | none=>obtain⟨v,h4,h5⟩:=h;exact⟨_,_,_,h5,fun K' k=>⟨v,h4,k⟩⟩
   | some k=>exact⟨_,_,_,h,fun K' k=>k⟩
  ·exact h.elim
 case bin op x y=>
  obtain⟨v,h1,h2⟩:=J4 h
  exact⟨_,_,_,h1,fun K' k=>h2 _ k⟩
 case eqv=>
  split at h
  ·obtain⟨b,h1,h2⟩:=h;exact⟨_,_,_,h2,fun K' k=>⟨b,h1,k⟩⟩
  ·exact h.elim
 case eqb=>split at h <;> first|exact h.elim|exact⟨_,_,_,h,fun K' k=>k⟩
 case isNil=>
  split at h
  ·exact⟨_,_,_,h,fun K' k=>k⟩
  ·exact⟨_,_,_,h,fun K' k=>k⟩
  ·exact⟨_,_,_,h.2,fun K' k=>⟨h.1,k⟩⟩
  ·exact h.elim
 case un=>split at h <;> first|exact h.elim|exact⟨_,_,_,h,fun K' k=>k⟩
 case conv=>split at h <;> first|exact h.elim|exact⟨_,_,_,h,fun K' k=>k⟩
 case strS=>split at h <;> first|exact h.elim|exact⟨_,_,_,h,fun K' k=>k⟩
 case b2s=>
  obtain⟨k,l,h1,hG⟩:=HK h
  exact⟨_,_,_,h1.2,fun K' k=>hG _ ⟨h1.1,k⟩⟩
 case s2b=>split at h <;> first|exact h.elim|exact⟨_,_,_,h,fun K' k=>k⟩
 case mkfn=>exact⟨_,_,_,h,fun K' k=>k⟩
 case mksl=>
  obtain⟨i,h1,hG⟩:=oU h
  obtain⟨j,⟨h2,h3,h4,h5,h6⟩,hG'⟩:=oU h1
  exact⟨_,_,_,h6,fun K' k=>hG _ (hG' _ ⟨h2,h3,h4,h5,k⟩)⟩
 case slcS=>
  split at h
  ·obtain⟨h1,h2,h3⟩:=h
   obtain⟨i,h4,hG⟩:=oV h3
   obtain⟨j,⟨h5,h6,h7,h8⟩,hG'⟩:=oV h4
   exact⟨_,_,_,h8,fun K' k=>⟨h1,h2,hG _ (hG' _ ⟨h5,h6,h7,k⟩)⟩⟩
  ·obtain⟨i,h4,hG⟩:=oV h
   obtain⟨j,⟨h5,h6,h7⟩,hG'⟩:=oV h4
   exact⟨_,_,_,h7,fun K' k=>hG _ (hG' _ ⟨h5,h6,k⟩)⟩
  ·exact h.elim
 case mkmap=>exact⟨_,_,_,h,fun K' k=>k⟩
 case mput=>
  split at h
  ·obtain⟨ks,kv,h1,h2,h3⟩:=h;exact⟨_,_,_,h3,fun K' k=>⟨ks,kv,h1,h2,k⟩⟩
  ·exact h.elim
 case mlen=>
  split at h
  ·obtain⟨q,ks,h1,h2⟩:=h;exact⟨_,_,_,h2,fun K' k=>⟨q,ks,h1,k⟩⟩
  ·exact h.elim
 case mk8=>
  split at h
  ·obtain⟨h0,B,e,h1,h2,h3,h4⟩:=h;exact⟨_,_,_,h4,fun K' k=>⟨h0,B,e,h1,h2,h3,k⟩⟩
  ·exact h.elim
 case capN=>split at h <;> first|exact h.elim|exact⟨_,_,_,h,fun K' k=>k⟩
 case pcmp=>
  split at h
  ·exact⟨_,_,_,h,fun K' k=>k⟩
  ·exact⟨_,_,_,h,fun K' k=>k⟩
  ·obtain⟨h1,h2,h3⟩:=h;exact⟨_,_,_,h3,fun K' k=>⟨h1,h2,k⟩⟩
  ·exact h.elim
 case cvp=>
  split at h
  ·split at h
   ·obtain⟨h1,h2,h3,h4⟩:=h;exact⟨_,_,_,h4,fun K' k=>⟨h1,h2,h3,k⟩⟩
   ·exact h.elim
  ·exact h.elim
 case noesc=>exact⟨_,_,_,h,fun K' k=>k⟩
 case sdat=>
  split at h
  ·split at h
   ·obtain⟨h1,h2,h3⟩:=h;exact⟨_,_,_,h3,fun K' k=>⟨h1,h2,k⟩⟩
   ·exact h.elim
  ·exact h.elim
 case ustr=>
  split at h
  ·split at h
   ·obtain⟨h1,h2,h3,h4,h5,h6,h7⟩:=h;exact⟨_,_,_,h7,fun K' k=>⟨h1,h2,h3,h4,h5,h6,k⟩⟩
   ·exact h.elim
  ·exact h.elim
 case appZ=>
  obtain⟨i,h3,hG⟩:=oU h
  split at h3
  ·rename_i he;simp only[he] at *
   obtain⟨h1,h2,h4,h5⟩:=h3
   exact⟨_,_,_,h5,fun K' k=>hG _ ⟨h1,h2,h4,k⟩⟩
  ·exact h3.elim
 case slcA=>
  split at h
  ·obtain⟨i,h4,hG⟩:=oV h
   obtain⟨j,⟨h5,h6,h7,h8⟩,hG'⟩:=oV h4
   exact⟨_,_,_,h8,fun K' k=>hG _ (hG' _ ⟨h5,h6,h7,k⟩)⟩
  ·exact h.elim
 case slcT=>
  split at h
  ·obtain⟨i,h4,hG⟩:=oV h
   obtain⟨j,⟨h5,h6,h7,h8⟩,hG'⟩:=oV h4
   exact⟨_,_,_,h8,fun K' k=>hG _ (hG' _ ⟨h5,h6,h7,k⟩)⟩
  ·exact h.elim
 case arrAt=>
  split at h
  ·obtain⟨h1,h2,h3,h4⟩:=h;exact⟨_,_,_,h4,fun K' k=>⟨h1,h2,h3,k⟩⟩
  ·exact h.elim
 case ext=>
  split at h
  ·obtain⟨v,h1,h2⟩:=h;exact⟨_,_,_,h2,fun K' k=>⟨v,h1,k⟩⟩
  ·exact h.elim
 case call=>exact hc _ _ _ _ _ h
 case callp=>
  obtain⟨h0,h⟩:=h
  obtain⟨v,m',n',⟨h1,h2,h3,h4⟩,h5⟩:=hc _ _ _ _ _ h
  exact⟨v,_,_,h4,fun K' k=>⟨h0,h5 _ ⟨h1,h2,h3,k⟩⟩⟩
 case callv=>
  split at h
  ·exact hc _ _ _ _ _ h
  ·exact h.elim
 case len b x=>split at h <;> first|exact h.elim|exact⟨_,_,_,h,fun K' k=>k⟩
 case lenA=>exact⟨_,_,_,h,fun K' k=>k⟩
 case app=>
  obtain⟨k,l,h1,hG⟩:=HL h
  split at h1
  ·rename_i he;simp only[he] at *
   obtain⟨q1,q2,q3,q4,q5,B,q6,q7,q8,q9⟩:=h1
   exact⟨_,_,_,q9,fun K' k=>hG _ ⟨q1,q2,q3,q4,q5,B,q6,q7,q8,k⟩⟩
  ·rename_i he;simp only[he] at *
   obtain⟨q1,q2,q3⟩:=h1
   exact⟨_,_,_,q3,fun K' k=>hG _ ⟨q1,q2,k⟩⟩
  ·exact h1.elim
 case copy=>
  obtain⟨k,l,h1,hG⟩:=HL h
  split at h1
  ·rename_i he;simp only[he] at *
   obtain⟨q1,B,e,q2,q3,q4,q5⟩:=h1
   exact⟨_,_,_,q5,fun K' k=>hG _ ⟨q1,B,e,q2,q3,q4,k⟩⟩
  ·exact h1.elim
 case mx=>split at h <;> first|exact h.elim|exact⟨_,_,_,h,fun K' k=>k⟩
 case mn=>split at h <;> first|exact h.elim|exact⟨_,_,_,h,fun K' k=>k⟩
theorem iM {T:List (Nat × List SV)} {call:bG} (hc:lV call) {fr:Fr} {m:bL} {n:Nat} {K K':Kt} {s:SOp} (h:dP T call fr m n K s)
  (hK:∀ v m n,K v m n→K' v m n):dP T call fr m n K' s:=
 let ⟨_,_,_,h1,h2⟩:=t8 hc h
 h2 K' (hK _ _ _ h1)
def t9 (o:Oper):List Nat:=(o.after.toList.filter (Region.binds .any)).map (·.on)
def vU (ops:List Oper) (qs:List Opr) (i:Nat):Bool:=
 match ops[i]?,qs[i]? with
 | some o,some q=>(t9 o).all (fun e=>decide (e < i)) && q.pre.all fun p=>decide (p < i) && ((t9 o).contains p || (t9 o).any fun e=>match qs[e]? with|some qe=>qe.pre.contains p|none=>false)
 | _,_=>false
def J5 (qs:List Opr) (i:Nat):Bool:=
 match qs[i]? with
 | some q=>(List.range qs.length).all fun j=>j==i || match qs[j]? with
  | some qj=>match qj.dst with
   | none=>true
   | some d=>q.hide.contains d || q.pre.contains j || qj.pre.contains i
  | none=>true
 | none=>false
def WF (qs:List Opr):Bool:=
 (List.range qs.length).all fun i=>(List.range qs.length).all fun j=>i==j || match qs[i]?,qs[j]? with
  | some a,some b=>a.dst==none || a.dst != b.dst
  | _,_=>true
def UE (qs:List Opr) (k:Nat):Bool:=
 (List.range qs.length).all fun i=>decide (i < k) || match qs[i]? with
  | some q=>(List.range i).all fun j=>q.pre.contains j
  | none=>false
def HM (P:Program) (N:Nat) (ops:List Oper) (qs:List Opr) (k:Nat):Bool:=
 P.follows .mixedOrders && pI P N ops ops qs && (List.range qs.length).all (vU ops qs) && (List.range qs.length).all (J5 qs) && WF qs && UE qs k && decide (k≤qs.length)
theorem gJ {n:Nat} {p:Nat→Bool} (h:(List.range n).all p=true) {i:Nat} (hi:i < n):p i=true:=
 List.all_eq_true.1 h i (List.mem_range.2 hi)
theorem kE {ops:List Oper} {qs:List Opr} (hlen:ops.length=qs.length) (hp:∀ i,i < qs.length→vU ops qs i=true) {S:Nat→Prop}
  (hS:∀ (i:Nat) (o:Oper),ops[i]?=some o→S i→∀ e∈t9 o,S e) :
  ∀ (i:Nat) (o:Oper) (q:Opr),ops[i]?=some o→qs[i]?=some q→(∀ e∈t9 o,S e)→∀ p∈q.pre,S p:=by
 intro i
 induction i using Nat.strongRecOn with
 | _ i ih=>
  intro o q ho hq he p hpq
  have hi:i < qs.length:=by
   rcases Nat.lt_or_ge i qs.length with h|h
   ·exact h
   ·rw[List.getElem?_eq_none h] at hq;cases hq
  have:=hp i hi
  unfold vU at this
  simp only[ho,hq,Bool.and_eq_true,List.all_eq_true,decide_eq_true_eq,Bool.or_eq_true,List.any_eq_true] at this
  obtain⟨h1,h2⟩:=this
  obtain⟨h3,h4⟩:=h2 p hpq
  rcases h4 with h4|⟨e,h5,h6⟩
  ·exact he p (by simpa using h4)
  ·have hei:=h1 e h5
   cases hqe:qs[e]? with
   | none=>simp[hqe] at h6
   | some qe=>
    simp only[hqe] at h6
    have hel:e < ops.length:=by omega
    exact ih e hei ops[e] qe (List.getElem?_eq_getElem hel) hqe (hS e _ (List.getElem?_eq_getElem hel) (he e h5)) p (by simpa using h6)
def pJ (ρ:dO) (c:Nat):dO:=fun x=>if x < c then ρ x else none
theorem s7 (ρ:dO) (c:Nat):(pJ ρ c).le ρ:=fun i L h=>by
 unfold pJ at h;split at h
 ·exact h
 ·cases h
theorem nF (ρ:dO) {c c':Nat} (h:c≤c'):(pJ ρ c).le (pJ ρ c'):=fun i L hi=>by
 unfold pJ at hi ⊢
 split at hi
 ·rw[if_pos (by omega)];exact hi
 ·cases hi
theorem nG (ρ:dO) {c i:Nat} (h:i < c):pJ ρ c i=ρ i:=by unfold pJ;rw[if_pos h]
theorem Cl (ρ:dO) {c i:Nat} (h:c≤i):pJ ρ c i=none:=by unfold pJ;rw[if_neg (by omega)]
theorem pZ {n:Nat}:∀ {m:bL} {i:Nat} {B:Blk},(i,B)∈dW n m→n≤i∧(i,B)∈m∧B.own
 | [],i,B,h=>by simp[dW] at h
 | (j,D) :: r,i,B,h=>by
  unfold dW at h
  cases hk:D.kind with
  | own e=>
   simp only[hk] at h
   split at h
   ·rename_i hj
    rcases List.mem_cons.1 h with h|h
    ·cases h
     refine⟨hj,?_,s6 (e:=e) rfl⟩
     have:D=⟨.own e,D.cells⟩:=by cases D;simp at hk;rw[hk]
     rw[← this];exact List.mem_cons_self
    ·obtain⟨h1,h2,h3⟩:=pZ h;exact⟨h1,List.mem_cons_of_mem _ h2,h3⟩
   ·obtain⟨h1,h2,h3⟩:=pZ h;exact⟨h1,List.mem_cons_of_mem _ h2,h3⟩
  | view=>
   simp only[hk] at h
   obtain⟨h1,h2,h3⟩:=pZ h;exact⟨h1,List.mem_cons_of_mem _ h2,h3⟩
  | map mk mks=>
   simp only[hk] at h
   obtain⟨h1,h2,h3⟩:=pZ h;exact⟨h1,List.mem_cons_of_mem _ h2,h3⟩
theorem kR:∀ {m:bL} {i:Nat} {B:Blk},(i,B)∈eD m→∃ B0,(i,B0)∈m∧B=⟨.view,B0.cells⟩
 | [],i,B,h=>by simp[eD] at h
 | (j,D) :: r,i,B,h=>by
  simp only[eD] at h
  rcases List.mem_cons.1 h with h|h
  ·cases h;exact⟨D,List.mem_cons_self,rfl⟩
  ·obtain⟨B0,h1,h2⟩:=kR h;exact⟨B0,List.mem_cons_of_mem _ h1,h2⟩
theorem gY {done:List Dn}:∀ {l:List Nat} {d:Dn},d∈bM done l↔∃ j∈l,done[j]?=some d
 | [],d=>by simp[bM]
 | j :: r,d=>by
  unfold bM
  cases h:done[j]? with
  | none=>
   simp only
   rw[gY]
   constructor
   ·rintro⟨q,h1,h2⟩;exact⟨q,List.mem_cons_of_mem _ h1,h2⟩
   ·rintro⟨q,h1,h2⟩
    rcases List.mem_cons.1 h1 with rfl|h1
    ·rw[h] at h2;cases h2
    ·exact⟨q,h1,h2⟩
  | some d'=>
   simp only[List.mem_cons]
   rw[gY]
   constructor
   ·rintro (rfl|⟨q,h1,h2⟩)
    ·exact⟨j,.inl rfl,h⟩
    ·exact⟨q,.inr h1,h2⟩
   ·rintro⟨q,rfl|h1,h2⟩
    ·rw[h] at h2;cases h2;exact .inl rfl
    ·exact .inr ⟨q,h1,h2⟩
theorem NN {fr:Fr} {dst:Option Nat} {v:SV} {x:Nat × SV} (h:x∈bQ fr dst v):(dst=some x.1∧x.2=v)∨(x∈fr∧dst≠some x.1):=by
 unfold bQ at h
 cases dst with
 | none=>exact .inr ⟨h,by simp⟩
 | some d=>
  simp only[put] at h
  rcases List.mem_cons.1 h with h|h
  ·subst h;exact .inl ⟨rfl,rfl⟩
  ·obtain⟨h1,h2⟩:=F9 h
   exact .inr ⟨h1,by simp;exact fun e=>h2 e.symm⟩
theorem AC:∀ {l:List Dn} {fr:Fr} {d:Nat} {v:SV},(d,v)∈iZ l fr→(∃ D∈l,D.dst=some d∧v=D.v)∨((d,v)∈fr∧∀ D∈l,D.dst≠some d)
 | [],fr,d,v,h=>.inr ⟨h,by simp⟩
 | D :: r,fr,d,v,h=>by
  simp only[iZ] at h
  rcases NN h with⟨h1,h2⟩|⟨h1,h2⟩
  ·exact .inl ⟨D,List.mem_cons_self,h1,h2⟩
  ·rcases AC h1 with⟨D',h3,h4⟩|⟨h3,h4⟩
   ·exact .inl ⟨D',List.mem_cons_of_mem _ h3,h4⟩
   ·refine .inr ⟨h3,fun D' hD'=>?_⟩
    rcases List.mem_cons.1 hD' with rfl|hD'
    ·exact h2
    ·exact h4 D' hD'
theorem uA:∀ {l:List Dn} {m:bL} {x:Nat × Blk},x∈fH l m→(∃ D∈l,x∈D.new)∨x∈m
 | [],m,x,h=>.inr h
 | D :: r,m,x,h=>by
  simp only[fH] at h
  rcases List.mem_append.1 h with h|h
  ·exact .inl ⟨D,List.mem_cons_self,h⟩
  ·rcases uA h with⟨D',h1,h2⟩|h1
   ·exact .inl ⟨D',List.mem_cons_of_mem _ h1,h2⟩
   ·exact .inr h1
def Cm (T:List (Nat × List SV)) (call:bG) (fr0:Fr) (m0:bL) (done:List Dn) (q:Opr) (d:Dn):Prop:=
 d.dst=q.dst∧d.lo≤d.hi ∧
 ((∃ mm,d.new=dW d.lo mm∧dP T call (iZ (bM done q.pre) (aU fr0 q.hide)) (eD (fH (bM done q.pre) m0)) d.lo (fun a b c=>a=d.v∧b=mm∧c=d.hi) q.op ∧
   (q.guard=none∨∃ g b,q.guard=some (g,b)∧get (iZ (bM done q.pre) (aU fr0 q.hide)) g=.bool b)) ∨
  (d.v=.val undef∧d.new=[]∧d.hi=d.lo∧∃ g b,q.guard=some (g,b) ∧
   (get (iZ (bM done q.pre) (aU fr0 q.hide)) g=.bool (!b)∨∃ vs,get (iZ (bM done q.pre) (aU fr0 q.hide)) g=.val (.tuple vs))))
theorem Ea {T:List (Nat × List SV)} {call:bG} (hc:lV call) {fr0:Fr} {m0:bL}:∀ (qs:List Opr) (done:List Dn) (n:Nat) (K:List Dn→Nat→Prop),
  EH T call fr0 m0 qs done n K→∃ D n',K (done++D) n'∧D.length=qs.length∧n≤n' ∧
   (∀ (i:Nat) (q:Opr),qs[i]?=some q→∃ d,D[i]?=some d∧Cm T call fr0 m0 (done++D.take i) q d∧n≤d.lo∧d.hi≤n') ∧
   (∀ (i j:Nat) (di dj:Dn),i < j→D[i]?=some di→D[j]?=some dj→di.hi≤dj.lo)
 | [],done,n,K,h=>⟨[],n,by simpa [EH] using h,rfl,Nat.le_refl _,by simp,by simp⟩
 | q :: qs,done,n,K,h=>by
  -- the rest, once this one has its outcome
  have rest:∀ d:Dn,Cm T call fr0 m0 done q d→d.lo=n→EH T call fr0 m0 qs (done++[d]) d.hi K→∃ D n',K (done++D) n'∧D.length=(q :: qs).length∧n≤n' ∧
    (∀ (i:Nat) (q':Opr),(q :: qs)[i]?=some q'→∃ d,D[i]?=some d∧Cm T call fr0 m0 (done++D.take i) q' d∧n≤d.lo∧d.hi≤n') ∧
    (∀ (i j:Nat) (di dj:Dn),i < j→D[i]?=some di→D[j]?=some dj→di.hi≤dj.lo):=by
   intro d hs hlo hr
   obtain⟨D,n',h1,h2,h3,h4,h5⟩:=Ea hc qs _ _ K hr
   have hle:=hs.2.1
   refine⟨d :: D,n',by simpa using h1,by simp[h2],by omega,?_,?_⟩
   ·intro i q' hq
    cases i with
    | zero=>simp at hq;subst hq;exact⟨d,rfl,by simpa using hs,by omega,h3⟩
    | succ i=>
     obtain⟨d',g1,g2,g3,g4⟩:=h4 i q' (by simpa using hq)
     exact⟨d',by simpa using g1,by simpa using g2,by omega,g4⟩
   ·intro i j di dj hij hi hj
    cases j with
    | zero=>omega
    | succ j=>
     cases i with
     | zero=>
      simp at hi;subst hi
      have hj':D[j]?=some dj:=by simpa using hj
      have hjl:j < qs.length:=by
       rcases Nat.lt_or_ge j D.length with h|h
       ·omega
       ·rw[List.getElem?_eq_none h] at hj';cases hj'
      obtain⟨d',g1,g2,g3,g4⟩:=h4 j qs[j] (List.getElem?_eq_getElem hjl)
      rw[hj'] at g1;cases g1;exact g3
     | succ i=>exact h5 i j di dj (by omega) (by simpa using hi) (by simpa using hj)
  simp only[EH] at h
  cases hg:q.guard with
  | none=>
   simp only[hg] at h
   obtain⟨v,m',n1,⟨h1,h2⟩,h3⟩:=t8 hc h
   exact rest ⟨q.dst,v,dW n m',n,n1⟩ ⟨rfl,h1,.inl ⟨m',rfl,h3 _ ⟨rfl,rfl,rfl⟩,.inl hg⟩⟩ rfl h2
  | some gb=>
   obtain⟨g,b⟩:=gb
   simp only[hg] at h
   split at h
   ·rename_i t ht
    by_cases htb:t=b
    ·obtain⟨v,m',n1,⟨h1,h2⟩,h3⟩:=t8 hc (h.1 htb)
     exact rest ⟨q.dst,v,dW n m',n,n1⟩ ⟨rfl,h1,.inl ⟨m',rfl,h3 _ ⟨rfl,rfl,rfl⟩,.inr ⟨g,b,hg,by rw[ht,htb]⟩⟩⟩ rfl h2
    ·have htb':t=!b:=by cases t <;> cases b <;> simp_all
     exact rest ⟨q.dst,.val undef,[],n,n⟩ ⟨rfl,Nat.le_refl _,.inr ⟨rfl,rfl,rfl,g,b,hg,.inl (by rw[ht,htb'])⟩⟩ rfl (h.2 htb')
   ·rename_i vs ht
    exact rest ⟨q.dst,.val undef,[],n,n⟩ ⟨rfl,Nat.le_refl _,.inr ⟨rfl,rfl,rfl,g,b,hg,.inr ⟨vs,ht⟩⟩⟩ rfl h
   ·exact h.elim
structure InvD (C:Ctx) (N nn nl:Nat) (fr0:Fr) (m0:bL) (D:List Dn) (S:Nat→Prop) (ρ:dO) (a:Act) (w:World):Prop where
 base:∀ d v,(d,v)∈fr0→(∀ (j:Nat) Dj,D[j]?=some Dj→S j→Dj.dst≠some d)→∃ x,a.tmps[d]?=some x∧v.is (pJ ρ nn) x
 done:∀ (j:Nat) Dj d,D[j]?=some Dj→S j→Dj.dst=some d→∃ x,a.tmps[d]?=some x∧Dj.v.is (pJ ρ Dj.hi) x
 oldB:∀ i B,(i,B)∈m0→i < nn∧∃ L,ρ i=some L∧B.okAt (pJ ρ nn) w L
 newB:∀ (j:Nat) Dj,D[j]?=some Dj→S j→∀ i B,(i,B)∈Dj.new→Dj.lo≤i∧i < Dj.hi∧∃ L,ρ i=some L∧B.okAt (pJ ρ Dj.hi) w L
 apart:∀ i B j B' L L' b,((i,B)∈m0∨∃ (q:Nat) (Dq:Dn),D[q]?=some Dq∧S q∧(i,B)∈Dq.new)→((j,B')∈m0∨∃ (q:Nat) (Dq:Dn),D[q]?=some Dq∧S q∧(j,B')∈Dq.new) →
  i≠j→B.own→ρ i=some L→ρ j=some L'→L.blk=some b→L'.blk≠some b
 wrt:∀ i B L b,((i,B)∈m0∨∃ (q:Nat) (Dq:Dn),D[q]?=some Dq∧S q∧(i,B)∈Dq.new)→B.own→ρ i=some L→L.blk=some b→C.w0.heap.size≤b∨C.wr b
 fresh1:∀ (j:Nat) Dj,D[j]?=some Dj→¬ S j→∀ x,Dj.lo≤x→x < Dj.hi→ρ x=none
 fresh2:∀ x,nl≤x→ρ x=none
 size:C.w0.heap.size≤w.heap.size
 frame:∀ b,b < C.w0.heap.size→¬ C.wr b→w.heap[b]?=C.w0.heap[b]?
 keep:∀ i,i < C.n0→ρ i=C.ρ0 i
 side:(w.os,w.tape)=(C.w0.os,C.w0.tape)∧w.output=C.w0.output
 defers:a.defers=[]
 asize:a.tmps.size=N
section
variable {C:Ctx} {N nn nl:Nat} {fr0:Fr} {m0:bL} {D:List Dn} {S:Nat→Prop} {ρ:dO} {a:Act} {w:World}
def EL (C:Ctx) (ρ:dO) (lo:Nat) (w:World) (W:Nat→Prop):Ctx:=⟨C.P,w,pJ ρ lo,lo,W,C.T⟩
abbrev J6 (C:Ctx) (ρ:dO) (lo:Nat) (w:World):Ctx:=EL C ρ lo w fun _=>False
mutual
theorem SV.is_flat {ρ ρ':dO}:∀ (v:SV) (x:Value),v.flat=true→v.is ρ x→v.is ρ' x
 | .any,_,_,h=>h
 | .int _ _,_,_,h=>h
 | .bool _,_,_,h=>h
 | .str _,_,_,h=>h
 | .gp _ _,_,_,h=>h
 | .val _,_,_,h=>h
 | .ptr _ _,_,hf,_=>by simp[SV.flat] at hf
 | .slc _ _ _ _ _,_,hf,_=>by simp[SV.flat] at hf
 | .mp _,_,hf,_=>by simp[SV.flat] at hf
 | .fn f as bs,x,hf,h=>by
  simp only[SV.flat,Bool.and_eq_true] at hf
  simp only[SV.is] at h ⊢
  obtain⟨as',bs',h1,h2,h3⟩:=h
  exact⟨as',bs',SV.isL_flat as as' hf.1 h1,SV.isL_flat bs bs' hf.2 h2,h3⟩
 | .agg l,x,hf,h=>by
  simp only[SV.flat] at hf
  simp only[SV.is] at h ⊢
  obtain⟨l',h1,h2⟩:=h
  exact⟨l',SV.isL_flat l l' hf h1,h2⟩
 | .tup l,x,hf,h=>by
  simp only[SV.flat] at hf
  simp only[SV.is] at h ⊢
  obtain⟨l',h1,h2⟩:=h
  exact⟨l',SV.isL_flat l l' hf h1,h2⟩
theorem SV.isL_flat {ρ ρ':dO}:∀ (l:List SV) (xs:List Value),SV.flatL l=true→SV.isL ρ l xs→SV.isL ρ' l xs
 | [],_,_,h=>by simpa only [SV.isL] using h
 | a :: l,xs,hf,h=>by
  simp only[SV.flatL,Bool.and_eq_true] at hf
  simp only[SV.isL] at h ⊢
  obtain⟨y,ys,h1,h2,h3⟩:=h
  exact⟨y,ys,h1,SV.is_flat a y hf.1 h2,SV.isL_flat l ys hf.2 h3⟩
end
theorem SV.flatL_get:∀ {l:List SV} {j:Nat} {v:SV},SV.flatL l=true→l[j]?=some v→v.flat=true
 | a :: l,0,v,hf,h=>by
  simp only[SV.flatL,Bool.and_eq_true] at hf
  simp at h;subst h;exact hf.1
 | a :: l,j+1,v,hf,h=>by
  simp only[SV.flatL,Bool.and_eq_true] at hf
  exact SV.flatL_get hf.2 (by simpa using h)
theorem Lz {ρ ρ':dO} {w:World} {B:Blk} {L:Loc} (hf:SV.flatL B.cells=true) (h:B.okAt ρ w L):B.okAt ρ' w L:=by
 unfold Blk.okAt at h ⊢
 cases hb:L.blk with
 | none=>rw[hb] at h;exact h
 | some b=>
  rw[hb] at h
  refine⟨h.1,fun j v hj=>?_,h.2.2⟩
  obtain⟨x,h1,h2,h3⟩:=h.2.1 j v hj
  exact⟨x,h1,SV.is_flat v x (SV.flatL_get hf hj) h2,h3⟩
theorem InvD.ctx (I:InvD C N nn nl fr0 m0 D S ρ a w) (X:CtxOk C) (lo:Nat):CtxOk (J6 C ρ lo w):=by
 constructor
 ·intro g cs h
  obtain⟨h1,h2⟩:=X.tab g cs h
  refine⟨Nat.lt_of_lt_of_le h1 I.size,fun j v hj=>?_⟩
  obtain⟨x,q1,q2,q3⟩:=h2 j v hj
  exact⟨x,by rw[← q1];exact fU (I.frame g h1 (X.nwr g cs h)),q2,q3⟩
 ·intro g cs _ h;exact h
theorem Aq {ρ ρ':dO} {w:World} {B:Blk} {L:Loc} (h:B.okAt ρ w L) (hle:ρ.le ρ'):(⟨.view,B.cells⟩:Blk).okAt ρ' w L:=by
 have h2:=h.mono hle (fun _ _=>rfl) (Nat.le_refl _)
 unfold Blk.okAt at h2 ⊢
 cases hb:L.blk with
 | none=>rw[hb] at h2;exact h2
 | some b=>have h3:=Blk.okAt_len h2;rw[hb] at h2;exact⟨h2.1,h2.2.1,h3⟩
theorem InvD.rel (I:InvD C N nn nl fr0 m0 D S ρ a w) {pre hide:List Nat} {lo:Nat} (hnn:nn≤lo) (hpre:∀ p∈pre,S p) (hlo:∀ p∈pre,∀ Dp,D[p]?=some Dp→Dp.hi≤lo)
  (hhide:∀ (j:Nat) Dj d,D[j]?=some Dj→S j→Dj.dst=some d→d∈hide∨j∈pre) :
  Rel (J6 C ρ lo w) N (pJ ρ lo) (iZ (bM D pre) (aU fr0 hide)) (eD (fH (bM D pre) m0)) lo a w:=by
 constructor
 ·intro d v h
  rcases AC h with⟨Dj,h1,h2,rfl⟩|⟨h1,h2⟩
  ·obtain⟨j,hj,hDj⟩:=gY.1 h1
   obtain⟨x,e1,e2⟩:=I.done j Dj d hDj (hpre j hj) h2
   exact⟨x,e1,SV.is_mono (nF ρ (hlo j hj Dj hDj)) _ _ e2⟩
  ·obtain⟨h3,h4⟩:=wI h1
   obtain⟨x,e1,e2⟩:=I.base d v h3 (fun j Dj hDj hS hdst=>by
    rcases hhide j Dj d hDj hS hdst with h5|h5
    ·exact h4 h5
    ·exact h2 Dj (gY.2 ⟨j,h5,hDj⟩) hdst)
   exact⟨x,e1,SV.is_mono (nF ρ hnn) _ _ e2⟩
 ·constructor
  ·intro i B h
   obtain⟨B0,h1,rfl⟩:=kR h
   rcases uA h1 with⟨Dj,h2,h3⟩|h2
   ·obtain⟨j,hj,hDj⟩:=gY.1 h2
    obtain⟨g1,g2,L,g3,g4⟩:=I.newB j Dj hDj (hpre j hj) i B0 h3
    have:=hlo j hj Dj hDj
    exact⟨L,by rw[nG _ (by omega)];exact g3,Aq g4 (nF ρ this)⟩
   ·obtain⟨g1,L,g3,g4⟩:=I.oldB i B0 h2
    exact⟨L,by rw[nG _ (by omega)];exact g3,Aq g4 (nF ρ hnn)⟩
  ·intro i B j B' L L' b h _ _ ho
   obtain⟨B0,_,rfl⟩:=kR h
   exact absurd rfl ho
  ·intro i hi;exact Cl ρ hi
  ·intro i B L b h ho
   obtain⟨B0,_,rfl⟩:=kR h
   exact absurd rfl ho
  ·exact Nat.le_refl _
  ·intro b _ _;rfl
  ·intro i _;rfl
  ·exact⟨rfl,rfl⟩
 ·exact I.defers
 ·exact I.asize
 ·exact Nat.le_refl _
theorem InvD.ctxK (I:InvD C N nn nl fr0 m0 D S ρ a w) (X:CtxOk C) (lo:Nat) {b:Nat} {B:Blk} {L:Loc} (hb:(b,B)∈m0) (ho:B.own) (hL:ρ b=some L):CtxOk (EL C ρ lo w fun c=>L.blk=some c):=by
 constructor
 ·exact (I.ctx X lo).tab
 ·intro g cs h hw
  rcases I.wrt b B L g (.inl hb) ho hL hw with q|q
  ·have:=(X.tab g cs h).1;omega
  ·exact X.nwr g cs h q
theorem InvD.relK (I:InvD C N nn nl fr0 m0 D S ρ a w) {pre hide:List Nat} {lo:Nat} (hnn:nn≤lo) (hpre:∀ p∈pre,S p) (hlo:∀ p∈pre,∀ Dp,D[p]?=some Dp→Dp.hi≤lo)
  (hhide:∀ (j:Nat) Dj d,D[j]?=some Dj→S j→Dj.dst=some d→d∈hide∨j∈pre) {b:Nat} {B:Blk} {L:Loc} (hb:(b,B)∈m0) (ho:B.own) (hL:ρ b=some L) :
  Rel (EL C ρ lo w fun c=>L.blk=some c) N (pJ ρ lo) (iZ (bM D pre) (aU fr0 hide)) ((b,B) :: rm (eD (fH (bM D pre) m0)) b) lo a w:=by
 have R:=I.rel hnn hpre hlo hhide
 have hl:∀ {i:Nat} {L:Loc},pJ ρ lo i=some L→ρ i=some L:=fun {i L} h=>s7 ρ lo i L h
 obtain⟨hbn,L',g1,g2⟩:=I.oldB b B hb
 rw[hL] at g1;cases g1
 have own1:∀ {i:Nat} {B':Blk},(i,B')∈((b,B) :: rm (eD (fH (bM D pre) m0)) b)→B'.own→i=b∧B'=B:=by
  intro i B' h h'
  rcases List.mem_cons.1 h with h|h
  ·cases h;exact⟨rfl,rfl⟩
  ·obtain⟨B0,_,rfl⟩:=kR (uV h).1
   exact absurd rfl h'
 refine⟨R.fr,⟨?_,?_,R.mem.fresh,?_,Nat.le_refl _,fun _ _ _=>rfl,fun _ _=>rfl,⟨rfl,rfl⟩⟩,R.defers,R.size,Nat.le_refl _⟩
 ·intro i B' h
  rcases List.mem_cons.1 h with h|h
  ·cases h
   exact⟨L,by rw[nG _ (by omega)];exact hL,g2.mono (nF ρ hnn) (fun _ _=>rfl) (Nat.le_refl _)⟩
  ·exact R.mem.blk i B' (uV h).1
 ·intro i B1 j B2 L1 L2 c hi hj hij h1 hL1 hL2 hc
  obtain⟨rfl,rfl⟩:=own1 hi h1
  rcases List.mem_cons.1 hj with hj|hj
  ·cases hj;exact (hij rfl).elim
  ·obtain⟨B0,h5,_⟩:=kR (uV hj).1
   refine I.apart i B1 j B0 L1 L2 c (.inl hb) ?_ hij h1 (hl hL1) (hl hL2) hc
   rcases uA h5 with⟨Dj,h2,h3⟩|h2
   ·obtain⟨q,hq,hDq⟩:=gY.1 h2
    exact .inr ⟨q,Dj,hDq,hpre q hq,h3⟩
   ·exact .inl h2
 ·intro i B1 L1 c hi h1 hL1 hc
  obtain⟨rfl,rfl⟩:=own1 hi h1
  have:=hl hL1
  rw[hL] at this;cases this
  exact .inr hc
theorem Cn {b lo:Nat} (h:b < lo):∀ {m:bL},dW lo (rm m b)=dW lo m
 | []=>rfl
 | (i,B) :: r=>by
  unfold rm
  by_cases e:i=b
  ·rw[if_pos e,Cn h]
   conv=>rhs;unfold dW
   cases B.kind <;> simp only
   rw[if_neg (by omega)]
  ·rw[if_neg e]
   unfold dW
   rw[Cn h]
theorem InvD.step (I:InvD C N nn nl fr0 m0 D S ρ a w) {i:Nat} {Di:Dn} (hi:D[i]?=some Di) (hSi:¬ S i) (hnn:nn≤Di.lo) (hle:Di.lo≤Di.hi) (hnl:Di.hi≤nl) (hn0:C.n0≤nn)
  (hdist:∀ (j:Nat) Dj d,D[j]?=some Dj→j≠i→Dj.dst=some d→Di.dst≠some d) (hdN:∀ d,Di.dst=some d→d < N)
  (hdisj:∀ (j:Nat) Dj,D[j]?=some Dj→j≠i→Dj.hi≤Di.lo∨Di.hi≤Dj.lo)
  (hloD:∀ (j:Nat) Dj,D[j]?=some Dj→nn≤Dj.lo) {W:Nat→Prop} {mm:bL}
  (hW:∀ c,W c→∃ b B L,(b,B)∈m0∧(∀ B',(b,B')∈m0→B'=B)∧B.own∧SV.flatL B.cells=true∧ρ b=some L∧L.blk=some c∧(b,B)∈mm)
  {ρ':dO} {y:Value} {w':World} (h1:(pJ ρ Di.lo).le ρ') (h2:Di.new=dW Di.lo mm) (h3:Di.v.is ρ' y) (h4:MemOk (EL C ρ Di.lo w W) ρ' mm Di.hi w') :
  ∃ ρ'',InvD C N nn nl fr0 m0 D (fun j=>S j∨j=i) ρ'' (a.put Di.dst y) w':=by
 let ρ2:dO:=fun x=>if Di.lo≤x∧x < Di.hi then ρ' x else ρ x
 have hfr:∀ x,Di.lo≤x→x < Di.hi→ρ x=none:=I.fresh1 i Di hi hSi
 have hout:∀ x,¬ (Di.lo≤x∧x < Di.hi)→ρ2 x=ρ x:=fun x hx=>by simp only[ρ2];rw[if_neg hx]
 have hin:∀ x,Di.lo≤x→x < Di.hi→ρ2 x=ρ' x:=fun x h h'=>by simp only[ρ2];rw[if_pos ⟨h,h'⟩]
 have hle2:ρ.le ρ2:=fun x L hx=>by
  by_cases hc:Di.lo≤x∧x < Di.hi
  ·rw[hfr x hc.1 hc.2] at hx;cases hx
  ·rw[hout x hc];exact hx
 have hlim:∀ c,(pJ ρ c).le (pJ ρ2 c):=fun c x L hx=>by
  unfold pJ at hx ⊢
  split at hx
  ·rename_i hxc;rw[if_pos hxc];exact hle2 x L hx
  ·cases hx
 have hnew:ρ'.le (pJ ρ2 Di.hi):=fun x L hx=>by
  have hxh:x < Di.hi:=by
   rcases Nat.lt_or_ge x Di.hi with h|h
   ·exact h
   ·rw[h4.fresh x h] at hx;cases hx
  rw[nG _ hxh]
  by_cases hxl:Di.lo≤x
  ·rw[hin x hxl hxh];exact hx
  ·rw[hout x (by omega)]
   have:=h4.keep x (by simp only[EL];omega)
   rw[this] at hx
   simp only[EL] at hx
   rw[nG _ (by omega)] at hx;exact hx
 have hold:∀ b,b < w.heap.size→¬ W b→w'.heap[b]?=w.heap[b]?:=fun b hb h=>h4.frame b hb h
 have hsz:w.heap.size≤w'.heap.size:=h4.size
 have keepW:∀ {b:Nat} {L:Loc},b < nn→ρ b=some L→ρ' b=some L:=fun {b L} hb hL=>by
  have:=h4.keep b (by simp only[EL];omega)
  rw[this];simp only[EL];rw[nG _ (by omega)];exact hL
 have okOld:∀ {x c:Nat} {B:Blk} {L:Loc},((x,B)∈m0∨∃ (q:Nat) (Dq:Dn),D[q]?=some Dq∧S q∧(x,B)∈Dq.new)→ρ x=some L→B.okAt (pJ ρ c) w L→B.okAt (pJ ρ2 c) w' L:=by
  intro x c B L hx hL h
  by_cases hw:∃ d,L.blk=some d∧W d
  ·obtain⟨d,hd,hw⟩:=hw
   obtain⟨b,B0,L0,q1,q2,q3,q4,q5,q6,q7⟩:=hW d hw
   have hbn:=(I.oldB b B0 q1).1
   by_cases e:x=b
   ·subst e
    have hB:B=B0:=by
     rcases hx with hx|⟨q,Dq,g1,g2,g3⟩
     ·exact q2 B hx
     ·have:=(I.newB q Dq g1 g2 x B g3).1
      have:=hloD q Dq g1
      omega
    subst hB
    rw[hL] at q5;cases q5
    obtain⟨L1,e1,e2⟩:=h4.blk x B q7
    rw[keepW hbn hL] at e1;cases e1
    exact Lz q4 e2
   ·exact absurd hd (I.apart b B0 x B L0 L d (.inl q1) hx (Ne.symm e) q3 q5 hL q6)
  ·exact h.mono (hlim c) (fun b hb=>hold b (by unfold Blk.okAt at h;rw[hb] at h;exact h.1) (fun h'=>hw ⟨b,hb,h'⟩)) hsz
 have hblk:∀ {c:Nat} {B:Blk} {L:Loc} {b:Nat},B.okAt (pJ ρ c) w L→L.blk=some b→b < w.heap.size:=fun {c B L b} h hb=>by
  unfold Blk.okAt at h;rw[hb] at h;exact h.1
 -- an old block: where it lies
 have old:∀ x B,((x,B)∈m0∨∃ (q:Nat) (Dq:Dn),D[q]?=some Dq∧S q∧(x,B)∈Dq.new)→ρ2 x=ρ x∧∀ L b,ρ x=some L→L.blk=some b→b < w.heap.size:=by
  intro x B h
  have hx:∃ L c,ρ x=some L∧B.okAt (pJ ρ c) w L:=by
   rcases h with h|⟨q,Dq,g1,g2,g3⟩
   ·obtain⟨_,L,e1,e2⟩:=I.oldB x B h;exact⟨L,_,e1,e2⟩
   ·obtain⟨_,_,L,e1,e2⟩:=I.newB q Dq g1 g2 x B g3;exact⟨L,_,e1,e2⟩
  obtain⟨L,c,e1,e2⟩:=hx
  refine⟨hout x (fun hc=>by rw[hfr x hc.1 hc.2] at e1;cases e1),fun L' b hL' hb=>?_⟩
  rw[e1] at hL';cases hL';exact hblk e2 hb
 -- a new block: where it lies
 have new:∀ x B,(x,B)∈Di.new→Di.lo≤x∧x < Di.hi∧(x,B)∈mm∧B.own∧ρ2 x=ρ' x∧∀ L b,ρ' x=some L→L.blk=some b→w.heap.size≤b:=by
  intro x B h
  rw[h2] at h
  obtain⟨g1,g2,g3⟩:=pZ h
  obtain⟨L,e1,e2⟩:=h4.blk x B g2
  have hxh:x < Di.hi:=by
   rcases Nat.lt_or_ge x Di.hi with h|h
   ·exact h
   ·rw[h4.fresh x h] at e1;cases e1
  refine⟨g1,hxh,g2,g3,hin x g1 hxh,fun L' b hL' hb=>?_⟩
  rcases h4.wrt x B L' b g2 g3 hL' hb with q|q
  ·exact q
  ·obtain⟨b0,B0,L0,q1,_,q3,_,q5,q6,q7⟩:=hW b q
   have hbn:=(I.oldB b0 B0 q1).1
   exact absurd hb (h4.apart b0 B0 x B L0 L' b q7 g2 (by omega) q3 (keepW hbn q5) hL' q6)
 have split:∀ x B,((x,B)∈m0∨∃ (q:Nat) (Dq:Dn),D[q]?=some Dq∧(S q∨q=i)∧(x,B)∈Dq.new) →
   ((x,B)∈m0∨∃ (q:Nat) (Dq:Dn),D[q]?=some Dq∧S q∧(x,B)∈Dq.new)∨(x,B)∈Di.new:=by
  intro x B h
  rcases h with h|⟨q,Dq,g1,g2|rfl,g3⟩
  ·exact .inl (.inl h)
  ·exact .inl (.inr ⟨q,Dq,g1,g2,g3⟩)
  ·rw[hi] at g1;cases g1;exact .inr g3
 refine⟨ρ2,?_⟩
 constructor
 ·intro d v hd hn
  obtain⟨x,e1,e2⟩:=I.base d v hd (fun j Dj hj hS=>hn j Dj hj (.inl hS))
  refine⟨x,?_,SV.is_mono (hlim nn) _ _ e2⟩
  have:=hn i Di hi (.inr rfl)
  unfold Act.put
  split
  ·rename_i t ht;rw[Array.getElem?_setIfInBounds_ne (fun e=>this (by rw[ht,e]))];exact e1
  ·exact e1
 ·intro j Dj d hj hS hd
  rcases hS with hS|rfl
  ·obtain⟨x,e1,e2⟩:=I.done j Dj d hj hS hd
   refine⟨x,?_,SV.is_mono (hlim _) _ _ e2⟩
   have:=hdist j Dj d hj (fun e=>hSi (e ▸ hS)) hd
   unfold Act.put
   split
   ·rename_i t ht;rw[Array.getElem?_setIfInBounds_ne (fun e=>this (by rw[ht,e]))];exact e1
   ·exact e1
  ·rw[hi] at hj;cases hj
   refine⟨y,?_,SV.is_mono hnew _ _ h3⟩
   have:=hdN d hd
   simp[Act.put,hd,I.asize,this]
 ·intro x B h
  obtain⟨g1,L,g3,g4⟩:=I.oldB x B h
  exact⟨g1,L,by rw[(old x B (.inl h)).1];exact g3,okOld (.inl h) g3 g4⟩
 ·intro j Dj hj hS x B h
  rcases hS with hS|rfl
  ·obtain⟨g1,g2,L,g3,g4⟩:=I.newB j Dj hj hS x B h
   exact⟨g1,g2,L,by rw[(old x B (.inr ⟨j,Dj,hj,hS,h⟩)).1];exact g3,okOld (.inr ⟨j,Dj,hj,hS,h⟩) g3 g4⟩
  ·rw[hi] at hj;cases hj
   obtain⟨g1,g2,g3,g4,g5,g6⟩:=new x B h
   obtain⟨L,e1,e2⟩:=h4.blk x B g3
   exact⟨g1,g2,L,by rw[g5];exact e1,e2.mono hnew (fun _ _=>rfl) (Nat.le_refl _)⟩
 ·intro x B z B' L L' b hx hz hxz ho hL hL' hb
  rcases split x B hx with hx|hx
  ·obtain⟨o1,o2⟩:=old x B hx
   rw[o1] at hL
   rcases split z B' hz with hz|hz
   ·rw[(old z B' hz).1] at hL'
    exact I.apart x B z B' L L' b hx hz hxz ho hL hL' hb
   ·obtain⟨_,_,g3,g4,g5,g6⟩:=new z B' hz
    rw[g5] at hL'
    intro hb'
    have:=g6 L' b hL' hb'
    have:=o2 L b hL hb
    omega
  ·obtain⟨_,_,g3,g4,g5,g6⟩:=new x B hx
   rw[g5] at hL
   rcases split z B' hz with hz|hz
   ·obtain⟨o1,o2⟩:=old z B' hz
    rw[o1] at hL'
    intro hb'
    have:=g6 L b hL hb
    have:=o2 L' b hL' hb'
    omega
   ·obtain⟨_,_,k3,k4,k5,k6⟩:=new z B' hz
    rw[k5] at hL'
    exact h4.apart x B z B' L L' b g3 k3 hxz ho hL hL' hb
 ·intro x B L b hx ho hL hb
  rcases split x B hx with hx|hx
  ·rw[(old x B hx).1] at hL
   exact I.wrt x B L b hx ho hL hb
  ·obtain⟨_,_,g3,g4,g5,g6⟩:=new x B hx
   rw[g5] at hL
   exact .inl (Nat.le_trans I.size (g6 L b hL hb))
 ·intro j Dj hj hS x h h'
  have hji:j≠i:=fun e=>hS (.inr e)
  rw[hout x (fun hc=>by rcases hdisj j Dj hj hji with q|q <;> omega)]
  exact I.fresh1 j Dj hj (fun h=>hS (.inl h)) x h h'
 ·intro x hx
  rw[hout x (by omega)];exact I.fresh2 x hx
 ·exact Nat.le_trans I.size hsz
 ·intro b hb hwr
  rw[hold b (Nat.lt_of_lt_of_le hb I.size) (fun hw=>by
   obtain⟨b0,B0,L0,q1,_,q3,_,q5,q6,_⟩:=hW b hw
   rcases I.wrt b0 B0 L0 b (.inl q1) q3 q5 q6 with q|q
   ·omega
   ·exact hwr q)];exact I.frame b hb hwr
 ·intro x hx
  rw[hout x (by omega)];exact I.keep x hx
 ·exact⟨h4.side.1.trans I.side.1,h4.side.2.trans I.side.2⟩
 ·rw[qP];exact I.defers
 ·rw[wJ];exact I.asize
theorem InvD.skip (I:InvD C N nn nl fr0 m0 D S ρ a w) {i:Nat} {Di:Dn} (hi:D[i]?=some Di) (hSi:¬ S i) (hv:Di.v=.val undef) (hnew:Di.new=[]) (hhi:Di.hi=Di.lo) (hnn:nn≤Di.lo) (hnl:Di.hi≤nl) (hn0:C.n0≤nn)
  (hdist:∀ (j:Nat) Dj d,D[j]?=some Dj→j≠i→Dj.dst=some d→Di.dst≠some d) (hdN:∀ d,Di.dst=some d→d < N)
  (hdisj:∀ (j:Nat) Dj,D[j]?=some Dj→j≠i→Dj.hi≤Di.lo∨Di.hi≤Dj.lo) (hloD:∀ (j:Nat) Dj,D[j]?=some Dj→nn≤Dj.lo) (X:CtxOk C) :
  ∃ ρ'',InvD C N nn nl fr0 m0 D (fun j=>S j∨j=i) ρ'' (a.put Di.dst undef) w:=by
 have R:=I.rel (pre:=[]) (hide:=(D.filterMap (·.dst))) hnn (by simp) (by simp) (fun j Dj d hj _ hd=>.inl (List.mem_filterMap.2 ⟨Dj,List.mem_of_getElem? hj,hd⟩))
 refine I.step hi hSi hnn (by omega) hnl hn0 hdist hdN hdisj hloD (W:=fun _=>False) (mm:=[]) (fun _ h=>h.elim) (ρ':=pJ ρ Di.lo) (dO.le_refl _) (by rw[hnew];rfl) (by rw[hv];simp only[SV.is]) ?_
 rw[hhi]
 exact R.mem.sub (by simp) (Nat.le_refl _)
theorem InvD.whole (I:InvD C N nn nl fr0 m0 D S ρ a w) (hall:∀ (j:Nat) Dj,D[j]?=some Dj→S j) (hn:nn≤nl) (hhi:∀ (j:Nat) Dj,D[j]?=some Dj→Dj.hi≤nl) (hn0:C.n0≤nn) (ks:List Nat) :
  Rel C N ρ (aU (iZ D.reverse fr0) ks) (fH D.reverse m0) nl a w:=by
 have hmem:∀ i B,(i,B)∈fH D.reverse m0→((i,B)∈m0∨∃ (q:Nat) (Dq:Dn),D[q]?=some Dq∧S q∧(i,B)∈Dq.new):=by
  intro i B h
  rcases uA h with⟨Dj,h1,h2⟩|h1
  ·obtain⟨q,hq⟩:=List.getElem?_of_mem (List.mem_reverse.1 h1)
   exact .inr ⟨q,Dj,hq,hall q Dj hq,h2⟩
  ·exact .inl h1
 constructor
 ·intro d v h
  rcases AC (wI h).1 with⟨Dj,h1,h2,rfl⟩|⟨h1,h2⟩
  ·obtain⟨q,hq⟩:=List.getElem?_of_mem (List.mem_reverse.1 h1)
   obtain⟨x,e1,e2⟩:=I.done q Dj d hq (hall q Dj hq) h2
   exact⟨x,e1,SV.is_mono (s7 ρ _) _ _ e2⟩
  ·obtain⟨x,e1,e2⟩:=I.base d v h1 (fun j Dj hj _=>h2 Dj (List.mem_reverse.2 (List.mem_of_getElem? hj)))
   exact⟨x,e1,SV.is_mono (s7 ρ _) _ _ e2⟩
 ·constructor
  ·intro i B h
   rcases hmem i B h with h|⟨q,Dq,g1,g2,g3⟩
   ·obtain⟨_,L,e1,e2⟩:=I.oldB i B h
    exact⟨L,e1,e2.mono (s7 ρ _) (fun _ _=>rfl) (Nat.le_refl _)⟩
   ·obtain⟨_,_,L,e1,e2⟩:=I.newB q Dq g1 g2 i B g3
    exact⟨L,e1,e2.mono (s7 ρ _) (fun _ _=>rfl) (Nat.le_refl _)⟩
  ·intro i B j B' L L' b hi hj;exact I.apart i B j B' L L' b (hmem i B hi) (hmem j B' hj)
  ·exact I.fresh2
  ·intro i B L b hi;exact I.wrt i B L b (hmem i B hi)
  ·exact I.size
  ·exact I.frame
  ·exact I.keep
  ·exact I.side
 ·exact I.defers
 ·exact I.asize
 ·omega
theorem InvD.start {n:Nat} (R:Rel C N ρ fr0 m0 n a w) (hD:∀ (j:Nat) Dj,D[j]?=some Dj→n≤Dj.lo) (hnl:n≤nl):InvD C N n nl fr0 m0 D (fun _=>False) ρ a w:=by
 have hl:∀ i L,ρ i=some L→i < n:=fun i L h=>by
  rcases Nat.lt_or_ge i n with h'|h'
  ·exact h'
  ·rw[R.mem.fresh i h'] at h;cases h
 have hle:ρ.le (pJ ρ n):=fun i L h=>by rw[nG _ (hl i L h)];exact h
 constructor
 ·intro d v h _
  obtain⟨x,e1,e2⟩:=R.fr d v h
  exact⟨x,e1,SV.is_mono hle _ _ e2⟩
 ·intro _ _ _ _ h;exact h.elim
 ·intro i B h
  obtain⟨L,e1,e2⟩:=R.mem.blk i B h
  exact⟨hl i L e1,L,e1,e2.mono hle (fun _ _=>rfl) (Nat.le_refl _)⟩
 ·intro _ _ _ h;exact h.elim
 ·intro i B j B' L L' b hi hj
  have hi':(i,B)∈m0:=by rcases hi with h|⟨_,_,_,h,_⟩ <;> first|exact h|exact h.elim
  have hj':(j,B')∈m0:=by rcases hj with h|⟨_,_,_,h,_⟩ <;> first|exact h|exact h.elim
  exact R.mem.apart i B j B' L L' b hi' hj'
 ·intro i B L b hi
  have hi':(i,B)∈m0:=by rcases hi with h|⟨_,_,_,h,_⟩ <;> first|exact h|exact h.elim
  exact R.mem.wrt i B L b hi'
 ·intro j Dj hj _ x hx _
  exact R.mem.fresh x (Nat.le_trans (hD j Dj hj) hx)
 ·intro x hx;exact R.mem.fresh x (by omega)
 ·exact R.mem.size
 ·exact R.mem.frame
 ·exact R.mem.keep
 ·exact R.mem.side
 ·exact R.defers
 ·exact R.size
end
theorem kT {ops:Array Oper} {listed:Array Bool} {i:Nat}:i∈Region.ready .any ops listed ↔
  ∃ o,ops.toList[i]?=some o∧listed.getD i true=false∧∀ e∈t9 o,listed.getD e false=true:=by
 unfold Region.ready
 rw[List.mem_filter,List.mem_range]
 constructor
 ·rintro⟨h1,h2⟩
  simp only[Bool.and_eq_true,Bool.not_eq_true'] at h2
  obtain⟨h3,h4⟩:=h2
  refine⟨ops[i],by simp[h1],h3,?_⟩
  rw[Array.getElem?_eq_getElem h1] at h4
  simp only[Option.map_some,Option.getD_some,Array.all_eq_true_iff_forall_mem] at h4
  intro e he
  unfold t9 at he
  obtain⟨x,hx,rfl⟩:=List.mem_map.1 he
  obtain⟨hx1,hx2⟩:=List.mem_filter.1 hx
  have:=h4 x (by simpa using hx1)
  simpa [hx2] using this
 ·rintro⟨o,h1,h2,h3⟩
  have hlt:i < ops.size:=by
   rcases Nat.lt_or_ge i ops.size with h|h
   ·exact h
   ·rw[List.getElem?_eq_none (by simpa using h)] at h1;cases h1
  refine⟨hlt,?_⟩
  simp only[Bool.and_eq_true,Bool.not_eq_true']
  refine⟨h2,?_⟩
  have ho:ops[i]?=some o:=by simpa using h1
  rw[ho]
  simp only[Option.map_some,Option.getD_some,Array.all_eq_true_iff_forall_mem]
  intro x hx
  cases hb:Region.binds .any x with
  | false=>rfl
  | true=>
   have:=h3 x.on (by unfold t9;exact List.mem_map.2 ⟨x,List.mem_filter.2 ⟨by simpa using hx,hb⟩,rfl⟩)
   simp[this]
theorem jX {listed:Array Bool} {i:Nat}:listed.getD i false=true↔listed[i]?=some true:=by
 rw[Array.getD_eq_getD_getElem?]
 cases h:listed[i]? with
 | none=>simp
 | some b=>simp
theorem jE {listed:Array Bool} {i:Nat}:listed.getD i true=false↔listed[i]?=some false:=by
 rw[Array.getD_eq_getD_getElem?]
 cases h:listed[i]? with
 | none=>simp
 | some b=>simp
theorem mK {listed:Array Bool} {i j:Nat} (hi:i < listed.size):(listed.setIfInBounds i true)[j]?=some true↔listed[j]?=some true∨j=i:=by
 by_cases h:j=i
 ·subst h;simp[hi]
 ·rw[Array.getElem?_setIfInBounds_ne (Ne.symm h)];simp[h]
def J7 (l:Array Bool):Nat:=l.toList.count true
theorem Eb:∀ (q:List Bool) (i:Nat),q[i]?=some false→(q.set i true).count true=q.count true+1
 | [],i,h=>by simp at h
 | b :: q,0,h=>by simp at h;subst h;simp
 | b :: q,i+1,h=>by
  simp only[List.set_cons_succ,List.count_cons]
  rw[Eb q i (by simpa using h)];omega
theorem KG {l:Array Bool} {i:Nat} (h:l[i]?=some false):J7 (l.setIfInBounds i true)=J7 l+1:=by
 unfold J7
 rw[Array.toList_setIfInBounds]
 exact Eb _ _ (by simpa using h)
theorem Co {l:Array Bool} {k:Nat} (h:∀ j:Nat,l[j]?=some true↔j < k) (hk:k≤l.size):J7 l=k:=by
 have:l.toList=List.replicate k true++List.replicate (l.size - k) false:=by
  apply List.ext_getElem?
  intro j
  rw[Array.getElem?_toList]
  by_cases hj:j < k
  ·rw[(h j).2 hj,List.getElem?_append_left (by simpa using hj)];simp[hj]
  ·rw[List.getElem?_append_right (by simp;omega)]
   rcases Nat.lt_or_ge j l.size with hs|hs
   ·have:l[j]?=some false:=by
     rw[Array.getElem?_eq_getElem hs]
     cases hb:l[j] with
     | false=>rfl
     | true=>exact absurd ((h j).1 (by rw[Array.getElem?_eq_getElem hs,hb])) hj
    rw[this,List.getElem?_replicate,if_pos (by simp;omega)]
   ·rw[Array.getElem?_eq_none hs,List.getElem?_replicate,if_neg (by simp;omega)]
 unfold J7
 rw[this];simp[List.count_replicate]
theorem KH {l:Array Bool} (h:J7 l=l.size) (i:Nat) (hi:i < l.size):l[i]?=some true:=by
 unfold J7 at h
 rw[← Array.length_toList] at h
 have:=List.count_eq_length.1 h l[i] (by simp)
 rw[Array.getElem?_eq_getElem hi,← this]
section
variable {C:Ctx} {N:Nat}
theorem u7 {P:Program} {all:List Oper}:∀ {os:List Oper} {qs:List Opr},pI P N all os qs=true→os.length=qs.length ∧
  ∀ (i:Nat) o q,os[i]?=some o→qs[i]?=some q→o.dst=q.dst∧(∀ d,o.dst=some d→d < N)∧u0 all o q.guard=true∧NH P o.op q.op=true
 | [],[],_=>⟨rfl,by simp⟩
 | o :: os,q :: qs,h=>by
  simp only[pI,Bool.and_eq_true,beq_iff_eq] at h
  obtain⟨⟨⟨⟨c1,c2⟩,c3⟩,c4⟩,c5⟩:=h
  obtain⟨h1,h2⟩:=u7 c5
  refine⟨by simp[h1],fun i o' q' ho hq=>?_⟩
  cases i with
  | zero=>
   simp at ho hq;subst ho;subst hq
   exact⟨c1,fun d hd=>by rw[hd] at c2;simpa using c2,c3,c4⟩
  | succ i=>exact h2 i o' q' (by simpa using ho) (by simpa using hq)
 | [],_ :: _,h=>by simp[pI] at h
 | _ :: _,[],h=>by simp[pI] at h
theorem qQ {all:List Oper} {o:Oper} {g:Nat} {b:Bool} (h:u0 all o (some (g,b))=true):∃ j,o.guard=some (j,b)∧((all[j]?).bind (·.dst))=some g:=by
 unfold u0 at h
 cases ho:o.guard with
 | none=>simp[ho] at h
 | some x=>
  obtain⟨j,b'⟩:=x
  simp only[ho,Bool.and_eq_true,beq_iff_eq] at h
  exact⟨j,by rw[h.2],h.1⟩
theorem vA {all:List Oper} {o:Oper} (h:u0 all o none=true):o.guard=none:=by
 unfold u0 at h
 cases ho:o.guard with
 | none=>rfl
 | some x=>simp[ho] at h
theorem CD (X:CtxOk C) {ops:Array Oper} {qs:List Opr} {Q:Exit→Act→World→Prop} {F:Fr→bL→Nat→Prop} (hc:pI C.P N ops.toList ops.toList qs=true)
  (hpre:∀ i,i < qs.length→vU ops.toList qs i=true) {k:Nat} (hlast:∀ (i:Nat) q,qs[i]?=some q→k≤i→∀ j < i,j∈q.pre)
  (hQ:∀ ρ' fr' m' n' a' w',F fr' m' n'→Rel C N ρ' fr' m' n' a' w'→Q .normal a' w') :
  ∀ (fuel i:Nat),k≤i→i+fuel=qs.length→∀ (listed:Array Bool) (fr:Fr) (m:bL) (n:Nat) (ρ:dO) (a:Act) (w:World),listed.size=qs.length→(∀ j,listed[j]?=some true↔j < i) →
   z6 C.T (aY C.P C.T) (qs.drop i) fr m n F→Rel C N ρ fr m n a w→wpAny C.P .any ops Q fuel listed a w:=by
 obtain⟨hlen,hget⟩:=u7 hc
 simp only[Array.length_toList] at hlen
 intro fuel
 induction fuel with
 | zero=>
  intro i hki hi listed fr m n ρ a w hsz hl hF R
  rw[List.drop_of_length_le (by omega)] at hF
  refine⟨?_,hQ ρ fr m n a w (by simpa [z6] using hF) R⟩
  rw[List.eq_nil_iff_forall_not_mem]
  intro j hj
  obtain⟨o,h1,h2,_⟩:=kT.1 hj
  have:=(hl j).2 (by
   rcases Nat.lt_or_ge j ops.size with h|h
   ·omega
   ·rw[List.getElem?_eq_none (by simpa using h)] at h1;cases h1)
  rw[jE.1 h2] at this;cases this
 | succ fuel ih=>
  intro i hki hi listed fr m n ρ a w hsz hl hF R
  have hiq:i < qs.length:=by omega
  have hio:i < ops.toList.length:=by simp;omega
  have hq:qs[i]?=some qs[i]:=List.getElem?_eq_getElem hiq
  have ho:ops.toList[i]?=some ops.toList[i]:=List.getElem?_eq_getElem hio
  obtain⟨c1,c2,c3,c4⟩:=hget i _ _ ho hq
  have hclosed:∀ (j:Nat) (o:Oper),ops.toList[j]?=some o→listed[j]?=some true→∀ e∈t9 o,listed[e]?=some true:=by
   intro j o hj hjt e he
   have hji:=(hl j).1 hjt
   have:=hpre j (by omega)
   unfold vU at this
   rw[hj,List.getElem?_eq_getElem (show j < qs.length by omega)] at this
   simp only[Bool.and_eq_true,List.all_eq_true,decide_eq_true_eq] at this
   exact (hl e).2 (by have:=this.1 e he;omega)
  have only:∀ j∈Region.ready .any ops listed,j=i:=by
   intro j hj
   obtain⟨o,h1,h2,h3⟩:=kT.1 hj
   have hjf:=jE.1 h2
   have hjn:¬ j < i:=fun h=>by rw[(hl j).2 h] at hjf;cases hjf
   have hjq:j < qs.length:=by
    rcases Nat.lt_or_ge j listed.size with h|h
    ·omega
    ·rw[Array.getElem?_eq_none h] at hjf;cases hjf
   rcases Nat.lt_or_ge i j with h|h
   ·have hp:=kE (by simpa using hlen) hpre (S:=fun j=>listed[j]?=some true) hclosed j o qs[j] h1 (List.getElem?_eq_getElem hjq) (fun e he=>jX.1 (h3 e he)) i
     (hlast j _ (List.getElem?_eq_getElem hjq) (by omega) i h)
    have:=(hl i).1 hp;omega
   ·omega
  have isReady:i∈Region.ready .any ops listed:=by
   refine kT.2 ⟨_,ho,jE.2 ?_,fun e he=>jX.2 ((hl e).2 ?_)⟩
   ·rw[Array.getElem?_eq_getElem (by omega)]
    cases hb:listed[i] with
    | false=>rfl
    | true=>have:=(hl i).1 (by rw[Array.getElem?_eq_getElem (by omega),hb]);omega
   ·have:=hpre i hiq
    unfold vU at this
    rw[ho,hq] at this
    simp only[Bool.and_eq_true,List.all_eq_true,decide_eq_true_eq] at this
    exact this.1 e he
  have hl':∀ j,(listed.setIfInBounds i true)[j]?=some true↔j < i+1:=fun j=>by
   rw[mK (by omega),hl j];omega
  rw[List.drop_eq_getElem_cons hiq] at hF
  have step:∀ y w' ρ' v m' n',ρ.le ρ'→z6 C.T (aY C.P C.T) (qs.drop (i+1)) (aU (bQ fr qs[i].dst v) qs[i].kill) m' n' F→v.is ρ' y→MemOk C ρ' m' n' w'→C.n0≤n' →
    wpAny C.P .any ops Q fuel (listed.setIfInBounds i true) (a.put ops.toList[i].dst y) w':=by
   intro y w' ρ' v m' n' h1 h2 h3 h4 h5
   refine ih (i+1) (by omega) (by omega) _ _ m' n' ρ' _ w' (by simpa using hsz) hl' h2 ⟨?_,h4,by rw[qP];exact R.defers,by rw[wJ];exact R.size,h5⟩
   rw[← c1]
   exact NL R.fr h1 R.size c2 h3 _
  refine⟨(fun h=>by rw[h] at isReady;cases isReady),fun j hj=>?_⟩
  obtain rfl:=only j hj
  have hoo:ops[j]?=some ops.toList[j]:=by rw[← Array.getElem?_toList];exact ho
  unfold wpOp
  rw[hoo]
  simp only
  simp only[z6] at hF
  cases hg:qs[j].guard with
  | none=>
   rw[hg] at c3
   simp only[hg] at hF
   rw[if_pos (oT (vA c3))]
   exact .inl (BZ X R c4 hF step)
  | some gb=>
   obtain⟨g,b⟩:=gb
   rw[hg] at c3
   simp only[hg] at hF
   obtain⟨q,hog,hj'⟩:=qQ c3
   have skip:z6 C.T (aY C.P C.T) (qs.drop (j+1)) (aU (bQ fr qs[j].dst (.val undef)) qs[j].kill) m n F→wpAny C.P .any ops Q fuel (listed.setIfInBounds j true) (a.put ops.toList[j].dst undef) w:=
    fun h=>step undef w ρ (.val undef) m n (dO.le_refl _) h (by simp only[SV.is]) R.mem R.n0
   split at hF
   ·rename_i t ht
    have hw:=mT (a:=a) hog hj' (t7 R ht)
    rw[Array.toArray_toList] at hw
    by_cases htb:t=b
    ·rw[if_pos (by rw[hw,htb];simp)]
     exact .inl (BZ X R c4 (hF.1 htb) step)
    ·have:t=!b:=by cases t <;> cases b <;> simp_all
     rw[if_neg (by rw[hw];simpa using htb)]
     exact skip (hF.2 this)
   ·rename_i vs ht
    have hw:=pQ (a:=a) hog hj' (xW R ht)
    rw[Array.toArray_toList] at hw
    rw[if_neg (by rw[hw];simp)]
    exact skip hF
   ·exact hF.elim
theorem sF {κ:Option (Nat × Blk)} {c:bG} (hc:lV c):lV (rZ κ c):=by
 intro f args m n K h
 unfold rZ at h ⊢
 cases κ with
 | none=>exact hc f args m n K h
 | some x=>
  obtain⟨b,B⟩:=x
  simp only at h ⊢
  cases hr:rd m b with
  | none=>simp only[hr] at h ⊢;exact hc f args m n K h
  | some y=>
   simp only[hr] at h ⊢
   obtain⟨v,m',n',h1,h2⟩:=hc _ _ _ _ _ h
   exact⟨v,rm m' b,n',h1.2,fun K' hK'=>h2 _ ⟨h1.1,hK'⟩⟩
theorem WG {T:List (Nat × List SV)} {κ:Option (Nat × Blk)} {c:bG} {fr:Fr} {m:bL} {n:Nat} {K:Kt} (op:SOp) (h:dP T (rZ κ c) fr m n K op) :
  dP T c fr m n K op∨∃ b B,κ=some (b,B)∧dP T c fr ((b,B) :: rm m b) n (Gw b B K) op:=by
 cases κ with
 | none=>exact .inl h
 | some x=>
  obtain⟨b,B⟩:=x
  have key:∀ {f:FuncId} {args:List SV} {m:bL} {n:Nat} {K:Kt},rZ (some (b,B)) c f args m n K→c f args m n K∨c f args ((b,B) :: rm m b) n (Gw b B K):=by
   intro f args m n K h
   unfold rZ at h
   simp only at h
   split at h
   ·exact .inl h
   ·exact .inr h
  cases op with
  | call f args=>
   simp only[dP] at h ⊢
   rcases key h with h|h
   ·exact .inl h
   ·exact .inr ⟨b,B,rfl,h⟩
  | callv x args=>
   simp only[dP] at h ⊢
   split at h
   ·rcases key h with h|h
    ·exact .inl h
    ·exact .inr ⟨b,B,rfl,h⟩
   ·exact h.elim
  | callp f args=>
   simp only[dP] at h ⊢
   exact .inl h
  | _=>exact .inl h
theorem Fa (X:CtxOk C) {id:Nat} {ops:Array Oper} {qs:List Opr} {k:Nat} (hc:HM C.P N ops.toList qs k=true) {fr:Fr} {m:bL} {n:Nat} {ρ:dO} {a:Act} {w:World}
  {F:Fr→bL→Nat→Prop} {Q:Exit→Act→World→Prop}
  {κ:Option (Nat × Blk)} (hκ:∀ b B,κ=some (b,B)→(b,B)∈m∧(∀ B',(b,B')∈m→B'=B)∧B.own∧SV.flatL B.cells=true)
  (hF:EH C.T (rZ κ (aY C.P C.T)) fr m (qs.take k) [] n fun done n'=>z6 C.T (aY C.P C.T) (qs.drop k) (aU (iZ done.reverse fr) (jJ (qs.take k))) (fH done.reverse m) n' F)
  (R:Rel C N ρ fr m n a w) (hQ:∀ ρ' fr' m' n' a' w',F fr' m' n'→Rel C N ρ' fr' m' n' a' w'→Q .normal a' w') :
  (Code.region id ops true).wp C.P Q a w:=by
 unfold HM at hc
 simp only[Bool.and_eq_true,decide_eq_true_eq] at hc
 obtain⟨⟨⟨⟨⟨⟨k1,k2⟩,k3⟩,k4⟩,k5⟩,k6⟩,k7⟩:=hc
 obtain⟨hlen,hget⟩:=u7 k2
 have hpre:∀ i,i < qs.length→vU ops.toList qs i=true:=fun i hi=>gJ k3 hi
 have hlast:∀ (i:Nat) q,qs[i]?=some q→k≤i→∀ j < i,j∈q.pre:=by
  intro i q hq hki j hj
  have hi:i < qs.length:=by
   rcases Nat.lt_or_ge i qs.length with h|h
   ·exact h
   ·rw[List.getElem?_eq_none h] at hq;cases hq
  have:=gJ k6 hi
  simp only[hq,Bool.or_eq_true,decide_eq_true_eq] at this
  rcases this with h|h
  ·omega
  ·simpa using gJ h hj
 obtain⟨D,nl,h1,h2,h3,h4,h5⟩:=Ea (sF (aN C.P C.T)) (qs.take k) [] n _ hF
 simp only[List.nil_append] at h1 h4
 have hDk:D.length=k:=by rw[h2];simp;omega
 have hDq:∀ (j:Nat) Dj,D[j]?=some Dj→j < k∧∃ q,qs[j]?=some q∧Cm C.T (rZ κ (aY C.P C.T)) fr m (D.take j) q Dj∧n≤Dj.lo∧Dj.hi≤nl:=by
  intro j Dj hj
  have hjk:j < k:=by
   rcases Nat.lt_or_ge j D.length with h|h
   ·omega
   ·rw[List.getElem?_eq_none h] at hj;cases hj
  have hjq:j < qs.length:=by omega
  refine⟨hjk,qs[j],List.getElem?_eq_getElem hjq,?_⟩
  obtain⟨d,g1,g2,g3,g4⟩:=h4 j qs[j] (by rw[List.getElem?_take_of_lt hjk];exact List.getElem?_eq_getElem hjq)
  rw[hj] at g1;cases g1;exact⟨g2,g3,g4⟩
 have hstep_le:∀ (j:Nat) Dj,D[j]?=some Dj→Dj.lo≤Dj.hi:=fun j Dj hj=>by
  obtain⟨_,q,_,g,_⟩:=hDq j Dj hj;exact g.2.1
 have hloD:∀ (j:Nat) Dj,D[j]?=some Dj→n≤Dj.lo:=fun j Dj hj=>(hDq j Dj hj).2.choose_spec.2.2.1
 refine wp_region_any k1 ?_
 have R1:Rel C N ρ fr m n a { w with drawn:=w.drawn+1 }:=⟨R.fr,R.mem.heap_eq rfl ⟨rfl,rfl⟩,R.defers,R.size,R.n0⟩
 -- the first phase
 have phase1:∀ (fuel:Nat) (listed:Array Bool) (ρ:dO) (a:Act) (w:World),listed.size=qs.length→J7 listed+fuel=qs.length→(∀ j,listed[j]?=some true→j < k) →
   (∀ (j:Nat) (o:Oper),ops.toList[j]?=some o→listed[j]?=some true→∀ e∈t9 o,listed[e]?=some true) →
   InvD C N n nl fr m D (fun j=>listed[j]?=some true) ρ a w→wpAny C.P .any ops Q fuel listed a w:=by
  intro fuel
  induction fuel with
  | zero=>
   intro listed ρ a w hsz hcnt hlk hcl I
   have hall:∀ j,j < qs.length→listed[j]?=some true:=fun j hj=>KH (by omega) j (by omega)
   have hkq:k=qs.length:=by
    rcases Nat.lt_or_ge k qs.length with h|h
    ·have:=hlk k (hall k h);omega
    ·omega
   refine CD X k2 hpre hlast hQ 0 k (Nat.le_refl _) (by omega) listed _ _ nl ρ a w hsz (fun j=>⟨hlk j,fun h=>hall j (by omega)⟩) h1 (I.whole (fun j Dj hj=>hall j (by have:=(hDq j Dj hj).1;omega)) h3 (fun j Dj hj=>(hDq j Dj hj).2.choose_spec.2.2.2) R.n0 _)
  | succ fuel ih=>
   intro listed ρ a w hsz hcnt hlk hcl I
   by_cases hall:∀ j,j < k→listed[j]?=some true
   ·have hfk:k+(fuel+1)=qs.length:=by
     have:J7 listed=k:=Co (fun j=>⟨hlk j,hall j⟩) (by omega)
     omega
    exact CD X k2 hpre hlast hQ (fuel+1) k (Nat.le_refl _) hfk listed _ _ nl ρ a w hsz (fun j=>⟨hlk j,hall j⟩) h1 (I.whole (fun j Dj hj=>hall j (hDq j Dj hj).1) h3 (fun j Dj hj=>(hDq j Dj hj).2.choose_spec.2.2.2) R.n0 _)
   ·have hnot:∀ j∈Region.ready .any ops listed,j < k:=by
     intro j hj
     obtain⟨o,g1,g2,g3⟩:=kT.1 hj
     have hjf:=jE.1 g2
     have hjq:j < qs.length:=by
      rcases Nat.lt_or_ge j listed.size with h|h
      ·omega
      ·rw[Array.getElem?_eq_none h] at hjf;cases hjf
     rcases Nat.lt_or_ge j k with h|h
     ·exact h
     ·exfalso
      refine hall fun q hq=>?_
      exact kE (by simpa using hlen) hpre (S:=fun j=>listed[j]?=some true) hcl j o qs[j] g1 (List.getElem?_eq_getElem hjq) (fun e he=>jX.1 (g3 e he)) q
       (hlast j _ (List.getElem?_eq_getElem hjq) h q (by omega))
    refine⟨fun hnil=>?_,fun i hi=>?_⟩
    ·exfalso
     refine hall ?_
     have:∀ j,j < qs.length→listed[j]?=some true:=by
      intro j
      induction j using Nat.strongRecOn with
      | _ j ih2=>
       intro hj
       cases hb:listed[j]? with
       | none=>rw[Array.getElem?_eq_none_iff] at hb;omega
       | some b=>
        cases b with
        | true=>rfl
        | false=>
         have hjo:j < ops.toList.length:=by omega
         have hp:=hpre j hj
         unfold vU at hp
         rw[List.getElem?_eq_getElem hjo,List.getElem?_eq_getElem hj] at hp
         simp only[Bool.and_eq_true,List.all_eq_true,decide_eq_true_eq] at hp
         have:j∈Region.ready .any ops listed:=kT.2 ⟨_,List.getElem?_eq_getElem hjo,jE.2 hb,fun e he=>jX.2 (ih2 e (hp.1 e he) (by have:=hp.1 e he;omega))⟩
         rw[hnil] at this;cases this
     exact fun j hj=>this j (by omega)
    ·have hik:=hnot i hi
     obtain⟨o,g1,g2,g3⟩:=kT.1 hi
     have hif:=jE.1 g2
     have hiq:i < qs.length:=by omega
     have hq:qs[i]?=some qs[i]:=List.getElem?_eq_getElem hiq
     obtain⟨c1,c2,c3,c4⟩:=hget i o _ g1 hq
     have hiD:i < D.length:=by omega
     have hDi:D[i]?=some D[i]:=List.getElem?_eq_getElem hiD
     obtain⟨_,q',hq',⟨s1,s2,s3⟩,s4,s5⟩:=hDq i _ hDi
     rw[hq] at hq';cases hq'
     have hprei:=hpre i hiq
     unfold vU at hprei
     rw[g1,hq] at hprei
     simp only[Bool.and_eq_true,List.all_eq_true,decide_eq_true_eq] at hprei
     have hpS:∀ p∈qs[i].pre,listed[p]?=some true:=kE (by simpa using hlen) hpre (S:=fun j=>listed[j]?=some true) hcl i o _ g1 hq (fun e he=>jX.1 (g3 e he))
     have hpick:bM (D.take i) qs[i].pre=bM D qs[i].pre:=by
      have hall2:∀ l:List Nat,(∀ p∈l,p < i)→bM (D.take i) l=bM D l:=by
       intro l
       induction l with
       | nil=>intro _;rfl
       | cons p l ihl=>
        intro hl
        unfold bM
        rw[List.getElem?_take_of_lt (hl p List.mem_cons_self),ihl (fun q hq=>hl q (List.mem_cons_of_mem _ hq))]
      exact hall2 _ fun p hp=>(hprei.2 p hp).1
     rw[hpick] at s3
     have hhide:∀ (j:Nat) Dj d,D[j]?=some Dj→listed[j]?=some true→Dj.dst=some d→d∈qs[i].hide∨j∈qs[i].pre:=by
      intro j Dj d hj hjS hd
      obtain⟨hjk,qj,hqj,⟨t1,_⟩,_⟩:=hDq j Dj hj
      have hji:j≠i:=fun e=>by rw[e,hif] at hjS;cases hjS
      have hh:=gJ k4 hiq
      unfold J5 at hh
      simp only[hq] at hh
      have:=gJ hh (show j < qs.length by omega)
      rw[hqj] at this
      simp only[Bool.or_eq_true,beq_iff_eq] at this
      rcases this with h|h
      ·exact absurd h hji
      ·rw[← t1,hd] at h
       simp only[Bool.or_eq_true] at h
       rcases h with (h|h)|h
       ·exact .inl (by simpa using h)
       ·exact .inr (by simpa using h)
       ·exfalso
        have hjo:j < ops.toList.length:=by omega
        have:=kE (by simpa using hlen) hpre (S:=fun j=>listed[j]?=some true) hcl j _ qj (List.getElem?_eq_getElem hjo) hqj (fun e he=>hcl j _ (List.getElem?_eq_getElem hjo) hjS e he) i (by simpa using h)
        rw[hif] at this;cases this
     have hloP:∀ p∈qs[i].pre,∀ Dp,D[p]?=some Dp→Dp.hi≤D[i].lo:=fun p hp Dp hDp=>h5 p i Dp D[i] (hprei.2 p hp).1 hDp hDi
     have Rr:=I.rel (pre:=qs[i].pre) (hide:=qs[i].hide) s4 hpS hloP hhide
     have Xr:=I.ctx X D[i].lo
     have hdist:∀ (j:Nat) Dj d,D[j]?=some Dj→j≠i→Dj.dst=some d→D[i].dst≠some d:=by
      intro j Dj d hj hji hd
      obtain⟨hjk,qj,hqj,⟨t1,_⟩,_⟩:=hDq j Dj hj
      have:=gJ (gJ k5 (show j < qs.length by omega)) hiq
      rw[hqj,hq] at this
      simp only[Bool.or_eq_true,beq_iff_eq,bne_iff_ne] at this
      rcases this with h|h|h
      ·exact absurd h hji
      ·rw[← t1,hd] at h;cases h
      ·rw[← t1,hd] at h;rw[s1];exact fun e=>h e.symm
     have hdN:∀ d,D[i].dst=some d→d < N:=fun d hd=>c2 d (by rw[c1,← s1];exact hd)
     have hdisj:∀ (j:Nat) Dj,D[j]?=some Dj→j≠i→Dj.hi≤D[i].lo∨D[i].hi≤Dj.lo:=by
      intro j Dj hj hji
      rcases Nat.lt_or_gt_of_ne hji with h|h
      ·exact .inl (h5 j i Dj D[i] h hj hDi)
      ·exact .inr (h5 i j D[i] Dj h hDi hj)
     have hcl':∀ (j:Nat) (o:Oper),ops.toList[j]?=some o→(listed.setIfInBounds i true)[j]?=some true→∀ e∈t9 o,(listed.setIfInBounds i true)[e]?=some true:=by
      intro j oj hj hjt e he
      rw[mK (by omega)] at hjt ⊢
      rcases hjt with h|rfl
      ·exact .inl (hcl j oj hj h e he)
      ·rw[g1] at hj;cases hj;exact .inl (jX.1 (g3 e he))
     have hlk':∀ j,(listed.setIfInBounds i true)[j]?=some true→j < k:=fun j hj=>by
      rw[mK (by omega)] at hj
      rcases hj with h|rfl
      ·exact hlk j h
      ·exact hik
     have hSeq:(fun j=>(listed.setIfInBounds i true)[j]?=some true)=fun j=>listed[j]?=some true∨j=i:=by
      funext j;exact propext (mK (by omega))
     have goOn:∀ y w' ρ'',InvD C N n nl fr m D (fun j=>listed[j]?=some true∨j=i) ρ'' (a.put D[i].dst y) w'→wpAny C.P .any ops Q fuel (listed.setIfInBounds i true) (a.put o.dst y) w':=by
      intro y w' ρ'' I2
      rw[c1,← s1]
      exact ih _ ρ'' _ w' (by simpa using hsz) (by rw[KG hif];omega) hlk' hcl' (by rw[hSeq];exact I2)
     have hnS:¬ (listed[i]?=some true):=by rw[hif];simp
     have hoo:ops[i]?=some o:=by rw[← Array.getElem?_toList];exact g1
     unfold wpOp
     rw[hoo]
     simp only
     rcases s3 with⟨mm,q1,q2,q3⟩|⟨q1,q2,q3,g,b,q4,q5⟩
     ·have hwant:Region.wanted o (yielded ops a.tmps)=true:=by
       rcases q3 with q3|⟨g,b,q3,q4⟩
       ·rw[q3] at c3;exact oT (vA c3)
       ·rw[q3] at c3
        obtain⟨j',r1,r2⟩:=qQ c3
        have:=mT (a:=a) r1 r2 (t7 Rr q4)
        rw[Array.toArray_toList] at this
        rw[this];simp
      rw[if_pos hwant]
      rcases WG _ q2 with q2|⟨b,B,hk,q2⟩
      ·refine .inl (BZ Xr Rr c4 q2 ?_)
       rintro y w' ρ' v m' n' e1 ⟨rfl,rfl,rfl⟩ e3 e4 _
       obtain⟨ρ'',I2⟩:=I.step hDi hnS s4 s2 s5 R.n0 hdist hdN hdisj hloD (W:=fun _=>False) (fun _ h=>h.elim) e1 q1 e3 e4
       exact goOn y w' ρ'' I2
      ·obtain⟨hm,hu,ho,hf⟩:=hκ b B hk
       obtain⟨hbn,L,hL,_⟩:=I.oldB b B hm
       refine .inl (BZ (I.ctxK X D[i].lo hm ho hL) (I.relK s4 hpS hloP hhide hm ho hL) c4 q2 ?_)
       rintro y w' ρ' v m' n' e1 ⟨g1,rfl,rfl,rfl⟩ e3 e4 _
       obtain⟨ρ'',I2⟩:=I.step hDi hnS s4 s2 s5 R.n0 hdist hdN hdisj hloD (mm:=m') (W:=fun c=>L.blk=some c) (fun c hc=>⟨b,B,L,hm,hu,ho,hf,hL,hc,fM g1⟩) e1 (by rw[q1];exact Cn (by omega)) e3 e4
       exact goOn y w' ρ'' I2
     ·have hwant:Region.wanted o (yielded ops a.tmps)=false:=by
       rw[q4] at c3
       obtain⟨j',r1,r2⟩:=qQ c3
       rcases q5 with q5|⟨vs,q5⟩
       ·have:=mT (a:=a) r1 r2 (t7 Rr q5)
        rw[Array.toArray_toList] at this
        rw[this];cases b <;> rfl
       ·have:=pQ (a:=a) r1 r2 (xW Rr q5)
        rw[Array.toArray_toList] at this
        exact this
      rw[if_neg (by rw[hwant];simp)]
      obtain⟨ρ'',I2⟩:=I.skip hDi hnS q1 q2 q3 s4 s5 R.n0 hdist hdN hdisj hloD X
      exact goOn undef w ρ'' I2
 refine phase1 ops.size (Array.replicate ops.size false) ρ a _ ?_ ?_ ?_ ?_ ?_
 ·simp at hlen ⊢;exact hlen
 ·have:J7 (Array.replicate ops.size false)=0:=by unfold J7;simp[List.count_replicate]
  simp at hlen;omega
 ·intro j hj
  rw[Array.getElem?_replicate] at hj
  split at hj <;> simp at hj
 ·intro j o _ hj
  rw[Array.getElem?_replicate] at hj
  split at hj <;> simp at hj
 ·have I:=InvD.start (nl:=nl) (D:=D) R1 (fun j Dj hj=>(hDq j Dj hj).2.choose_spec.2.2.1) h3
  have:(fun j:Nat=>(Array.replicate ops.size false)[j]?=some true)=fun _=>False:=by
   funext j
   apply propext
   constructor
   ·intro hj
    rw[Array.getElem?_replicate] at hj
    split at hj <;> simp at hj
   ·exact False.elim
  rw[this];exact I
end
structure DW where
 d:Dn
 st:Option (Nat × Blk)
 tc:Option (List Nat)
def cV:List DW→List Dn
 | []=>[]
 | x :: r=>x.d :: cV r
def jC:List DW→List Nat
 | []=>[]
 | x :: r=>match x.st with
  | some (b,_)=>b :: jC r
  | none=>jC r
def touch (fr:Fr):SOp→Option (List Nat)
 | .mv _|.ext _ _|.nilc _|.fld _ _|.slcA _ _ _ _ _|.new _ _|.build _ _=>some []
 | .load _ x=>match x.ev fr with
  | .ptr i _=>some [i]
  | .gp _ _=>some []
  | _=>none
 | .arrAt _ x=>match x.ev fr with
  | .slc i _ _ _ _=>some [i]
  | _=>none
 | .idxS x _ _=>match x.ev fr with
  | .slc i _ _ _ _=>some [i]
  | _=>none
 | .slcS _ x _ _=>match x.ev fr with
  | .slc i _ _ _ _=>some [i]
  | _=>none
 | _=>none
def clear (tc:Option (List Nat)) (bs:List Nat):Prop:=
 match bs with
 | []=>True
 | b :: r=>match tc with
  | some l=>(b :: r).all (fun b=>!(l.contains b))=true
  | none=>False
def eV (b:Nat) (pre:List Nat):Nat→List DW→Prop
 | _,[]=>True
 | q,x :: r=>(match pre.contains q with
  | true=>True
  | false=>match x.tc with
   | some l=>l.contains b=false
   | none=>False)∧eV b pre (q+1) r
def lZ:List DW→bL→bL
 | [],m=>m
 | x :: r,m=>match x.st with
  | some (b,B)=>bC (lZ r m) b B
  | none=>lZ r m
def HN (T:List (Nat × List SV)) (call:bG) (fr0:Fr) (m0:bL):List Opr→List DW→Nat→(List DW→Nat→Prop)→Prop
 | [],done,n,K=>K done n
 | o :: r,done,n,K=>
  let frq:=iZ (bM (cV done) o.pre) (aU fr0 o.hide)
  let mq:=fH (bM (cV done) o.pre) m0
  match o.op with
  | .store k a x=>o.guard=none∧match a.ev frq with
   | .ptr b off=>∃ e cells l,rd mq b=some ⟨.own e,cells⟩∧(x.ev frq).cells?=some l∧l.length=k∧off+k≤cells.length∧(jC done).contains b=false∧eV b o.pre 0 done ∧
     HN T call fr0 m0 r (done++[⟨⟨o.dst,.any,[],n,n⟩,some (b,⟨.own e,aF cells off l⟩),none⟩]) n K
   | _=>False
  | .mput a x key=>o.guard=none∧match x.ev frq with
   | .mp b=>∃ ks kv,mI mq b=some (a,ks)∧EF a (key.ev frq)=some kv∧(jC done).contains b=false∧eV b o.pre 0 done ∧
     HN T call fr0 m0 r (done++[⟨⟨o.dst,.any,[],n,n⟩,some (b,⟨.map a (Bo ks kv),[]⟩),none⟩]) n K
   | _=>False
  | op=>clear (touch frq op) (jC done)∧match o.guard with
   | none=>dP T call frq (eD mq) n (fun v m' n'=>n≤n'∧HN T call fr0 m0 r (done++[⟨⟨o.dst,v,dW n m',n,n'⟩,none,touch frq op⟩]) n' K) op
   | some (g,b)=>
    match get frq g with
    | .bool t=>(t=b→dP T call frq (eD mq) n (fun v m' n'=>n≤n'∧HN T call fr0 m0 r (done++[⟨⟨o.dst,v,dW n m',n,n'⟩,none,touch frq op⟩]) n' K) op) ∧
      (t=!b→HN T call fr0 m0 r (done++[⟨⟨o.dst,.val undef,[],n,n⟩,none,some []⟩]) n K)
    | .val (.tuple _)=>HN T call fr0 m0 r (done++[⟨⟨o.dst,.val undef,[],n,n⟩,none,some []⟩]) n K
    | _=>False
def KI (T:List (Nat × List SV)) (call:bG) (fr0:Fr) (m0:bL) (done:List DW) (q:Opr) (x:DW):Prop:=
 (x.st=none∧clear x.tc (jC done)∧Cm T call fr0 m0 (cV done) q x.d∧(x.d.new≠[]∨True) ∧
  (x.tc=touch (iZ (bM (cV done) q.pre) (aU fr0 q.hide)) q.op∨(x.d.v=.val undef∧x.d.new=[]∧x.d.hi=x.d.lo∧∃ g b,q.guard=some (g,b) ∧
   (get (iZ (bM (cV done) q.pre) (aU fr0 q.hide)) g=.bool (!b)∨∃ vs,get (iZ (bM (cV done) q.pre) (aU fr0 q.hide)) g=.val (.tuple vs))))) ∨
 (∃ b B B',q.guard=none∧rd (fH (bM (cV done) q.pre) m0) b=some B∧B.own∧B'.own ∧
  (∀ n,dP T call (iZ (bM (cV done) q.pre) (aU fr0 q.hide)) [(b,B)] n (fun v m' n'=>v=.any∧m'=[(b,B')]∧n'=n) q.op) ∧
  (jC done).contains b=false∧eV b q.pre 0 done∧x.d.dst=q.dst∧x.d.v=.any∧x.d.new=[]∧x.d.hi=x.d.lo∧x.st=some (b,B')∧x.tc=none)
theorem wL:∀ (l:List DW),cV l=l.map (·.d)
 | []=>rfl
 | x :: l=>by simp only[cV,wL l,List.map_cons]
theorem Ar:∀ {l:List DW} {b:Nat},b∈jC l↔∃ x∈l,∃ B,x.st=some (b,B)
 | [],b=>by simp[jC]
 | x :: l,b=>by
  simp only[jC,List.mem_cons,exists_eq_or_imp]
  split
  ·rename_i b' B h
   simp only[List.mem_cons,Ar,h,Option.some.injEq,Prod.mk.injEq]
   constructor
   ·rintro (rfl|h2)
    ·exact .inl ⟨B,rfl,rfl⟩
    ·exact .inr h2
   ·rintro (⟨B',rfl,_⟩|h2)
    ·exact .inl rfl
    ·exact .inr h2
  ·rename_i h
   simp only[Ar,h,reduceCtorEq,exists_false,false_or]
theorem NO {tc:Option (List Nat)} {bs:List Nat} (h:clear tc bs) (hb:bs≠[]):∃ l,tc=some l∧∀ b∈bs,b ∉ l:=by
 cases bs with
 | nil=>exact absurd rfl hb
 | cons b r=>
  simp only[clear] at h
  split at h
  ·rename_i l
   refine⟨l,rfl,fun c hc=>?_⟩
   have:=List.all_eq_true.1 h c hc
   simpa using this
  ·exact h.elim
theorem yZ {b:Nat} {pre:List Nat}:∀ {l:List DW} {o:Nat},eV b pre o l→∀ (q:Nat) x,l[q]?=some x→pre.contains (o+q)=true∨∃ t,x.tc=some t∧b ∉ t
 | y :: l,o,h,q,x,hx=>by
  simp only[eV] at h
  cases q with
  | zero=>
   simp at hx;subst hx
   have h1:=h.1
   split at h1
   ·rename_i hc;exact .inl (by simpa using hc)
   ·split at h1
    ·rename_i t ht;exact .inr ⟨t,ht,by simpa using h1⟩
    ·exact h1.elim
  | succ q=>
   have:=yZ h.2 q x (by simpa using hx)
   rwa [show o+1+q=o+(q+1) by omega] at this
 | [],_,_,q,x,hx=>by simp at hx
theorem Ec {T:List (Nat × List SV)} {call:bG} (hc:lV call) {fr0:Fr} {m0:bL}:∀ (qs:List Opr) (done:List DW) (n:Nat) (K:List DW→Nat→Prop),
  HN T call fr0 m0 qs done n K→∃ D n',K (done++D) n'∧D.length=qs.length∧n≤n' ∧
   (∀ (i:Nat) (q:Opr),qs[i]?=some q→∃ x,D[i]?=some x∧KI T call fr0 m0 (done++D.take i) q x∧x.d.dst=q.dst∧n≤x.d.lo∧x.d.lo≤x.d.hi∧x.d.hi≤n') ∧
   (∀ (i j:Nat) (di dj:DW),i < j→D[i]?=some di→D[j]?=some dj→di.d.hi≤dj.d.lo)
 | [],done,n,K,h=>⟨[],n,by simpa [HN] using h,rfl,Nat.le_refl _,by simp,by simp⟩
 | q :: qs,done,n,K,h=>by
  have rest:∀ x:DW,KI T call fr0 m0 done q x→x.d.dst=q.dst→x.d.lo≤x.d.hi→x.d.lo=n→HN T call fr0 m0 qs (done++[x]) x.d.hi K→∃ D n',K (done++D) n'∧D.length=(q :: qs).length∧n≤n' ∧
    (∀ (i:Nat) (q':Opr),(q :: qs)[i]?=some q'→∃ x,D[i]?=some x∧KI T call fr0 m0 (done++D.take i) q' x∧x.d.dst=q'.dst∧n≤x.d.lo∧x.d.lo≤x.d.hi∧x.d.hi≤n') ∧
    (∀ (i j:Nat) (di dj:DW),i < j→D[i]?=some di→D[j]?=some dj→di.d.hi≤dj.d.lo):=by
   intro d hs hdst hle hlo hr
   obtain⟨D,n',h1,h2,h3,h4,h5⟩:=Ec hc qs _ _ K hr
   refine⟨d :: D,n',by simpa using h1,by simp[h2],by omega,?_,?_⟩
   ·intro i q' hq
    cases i with
    | zero=>simp at hq;subst hq;exact⟨d,rfl,by simpa using hs,hdst,by omega,hle,h3⟩
    | succ i=>
     obtain⟨d',g1,g2,g3,g4,g5,g6⟩:=h4 i q' (by simpa using hq)
     exact⟨d',by simpa using g1,by simpa using g2,g3,by omega,g5,g6⟩
   ·intro i j di dj hij hi hj
    cases j with
    | zero=>omega
    | succ j=>
     cases i with
     | zero=>
      simp at hi;subst hi
      have hj':D[j]?=some dj:=by simpa using hj
      have hjl:j < qs.length:=by
       rcases Nat.lt_or_ge j D.length with h|h
       ·omega
       ·rw[List.getElem?_eq_none h] at hj';cases hj'
      obtain⟨d',g1,g2,g3,g4,_⟩:=h4 j qs[j] (List.getElem?_eq_getElem hjl)
      rw[hj'] at g1;cases g1;exact g4
     | succ i=>exact h5 i j di dj (by omega) (by simpa using hi) (by simpa using hj)
  unfold HN at h
  simp only at h
  split at h
  ·rename_i k a y hop
   obtain⟨hg,h⟩:=h
   split at h
   ·rename_i b off hab
    obtain⟨e,cells,l,h1,h2,h3,h4,h5,h6,h7⟩:=h
    exact rest ⟨⟨q.dst,.any,[],n,n⟩,some (b,⟨.own e,aF cells off l⟩),none⟩ (.inr ⟨b,⟨.own e,cells⟩,⟨.own e,aF cells off l⟩,hg,h1,s6 rfl,s6 rfl,(fun n=>by
     rw[hop];simp only[dP,hab]
     exact⟨⟨.own e,cells⟩,e,l,by simp[rd],rfl,h2,h3,h4,by simp[bC]⟩),h5,h6,rfl,rfl,rfl,rfl,rfl,rfl⟩) rfl (Nat.le_refl _) rfl h7
   ·exact h.elim
  ·rename_i a y key hop
   obtain⟨hg,h⟩:=h
   split at h
   ·rename_i b hab
    obtain⟨ks,kv,h1,h2,h5,h6,h7⟩:=h
    have hrd:∃ cs,rd (fH (bM (cV done) q.pre) m0) b=some ⟨.map a ks,cs⟩:=by
     unfold mI at h1
     split at h1
     ·cases h1;exact⟨_,by assumption⟩
     ·cases h1
    obtain⟨cs,hrd⟩:=hrd
    exact rest ⟨⟨q.dst,.any,[],n,n⟩,some (b,⟨.map a (Bo ks kv),[]⟩),none⟩ (.inr ⟨b,⟨.map a ks,cs⟩,⟨.map a (Bo ks kv),[]⟩,hg,hrd,by unfold Blk.own;simp,by unfold Blk.own;simp,(fun n=>by
     rw[hop];simp only[dP,hab]
     exact⟨ks,kv,by simp[mI,rd],h2,by simp[bC]⟩),h5,h6,rfl,rfl,rfl,rfl,rfl,rfl⟩) rfl (Nat.le_refl _) rfl h7
   ·exact h.elim
  ·rename_i hne
   obtain⟨hcl,h⟩:=h
   cases hg:q.guard with
   | none=>
    simp only[hg] at h
    obtain⟨v,m',n1,⟨h1,h2⟩,h3⟩:=t8 hc h
    exact rest ⟨⟨q.dst,v,dW n m',n,n1⟩,none,touch (iZ (bM (cV done) q.pre) (aU fr0 q.hide)) q.op⟩ (.inl ⟨rfl,hcl,⟨rfl,h1,.inl ⟨m',rfl,h3 _ ⟨rfl,rfl,rfl⟩,.inl hg⟩⟩,.inr trivial,.inl rfl⟩) rfl h1 rfl h2
   | some gb=>
    obtain⟨g,b⟩:=gb
    simp only[hg] at h
    have hcl0:clear (some []) (jC done):=by
     unfold clear
     split
     ·trivial
     ·simp
    split at h
    ·rename_i t ht
     by_cases htb:t=b
     ·obtain⟨v,m',n1,⟨h1,h2⟩,h3⟩:=t8 hc (h.1 htb)
      exact rest ⟨⟨q.dst,v,dW n m',n,n1⟩,none,touch (iZ (bM (cV done) q.pre) (aU fr0 q.hide)) q.op⟩ (.inl ⟨rfl,hcl,⟨rfl,h1,.inl ⟨m',rfl,h3 _ ⟨rfl,rfl,rfl⟩,.inr ⟨g,b,hg,by rw[ht,htb]⟩⟩⟩,.inr trivial,.inl rfl⟩) rfl h1 rfl h2
     ·have htb':t=!b:=by cases t <;> cases b <;> simp_all
      exact rest ⟨⟨q.dst,.val undef,[],n,n⟩,none,some []⟩ (.inl ⟨rfl,hcl0,⟨rfl,Nat.le_refl _,.inr ⟨rfl,rfl,rfl,g,b,hg,.inl (by rw[ht,htb'])⟩⟩,.inr trivial,.inr ⟨rfl,rfl,rfl,g,b,hg,.inl (by rw[ht,htb'])⟩⟩) rfl (Nat.le_refl _) rfl (h.2 htb')
    ·rename_i vs ht
     exact rest ⟨⟨q.dst,.val undef,[],n,n⟩,none,some []⟩ (.inl ⟨rfl,hcl0,⟨rfl,Nat.le_refl _,.inr ⟨rfl,rfl,rfl,g,b,hg,.inr ⟨vs,ht⟩⟩⟩,.inr trivial,.inr ⟨rfl,rfl,rfl,g,b,hg,.inr ⟨vs,ht⟩⟩⟩) rfl (Nat.le_refl _) rfl h
    ·exact h.elim
def oW (keep:Nat→Prop) [DecidablePred keep]:bL→bL
 | []=>[]
 | (i,B) :: r=>if keep i then (i,B) :: oW keep r else oW keep r
theorem uB {keep:Nat→Prop} [DecidablePred keep]:∀ {m:bL} {i:Nat} {B:Blk},(i,B)∈oW keep m→(i,B)∈m∧keep i
 | (j,D) :: r,i,B,h=>by
  unfold oW at h
  split at h
  ·rename_i hk
   rcases List.mem_cons.1 h with h|h
   ·cases h;exact⟨List.mem_cons_self,hk⟩
   ·obtain⟨h1,h2⟩:=uB h;exact⟨List.mem_cons_of_mem _ h1,h2⟩
  ·obtain⟨h1,h2⟩:=uB h;exact⟨List.mem_cons_of_mem _ h1,h2⟩
 | [],i,B,h=>by simp[oW] at h
theorem uC {keep:Nat→Prop} [DecidablePred keep]:∀ {m:bL} {i:Nat},keep i→rd (oW keep m) i=rd m i
 | [],i,_=>rfl
 | (j,D) :: r,i,h=>by
  unfold oW
  by_cases hk:keep j
  ·rw[if_pos hk];unfold rd;rw[uC h]
  ·rw[if_neg hk,uC h]
   have:j≠i:=fun e=>hk (e ▸ h)
   conv=>rhs;unfold rd
   rw[if_neg this]
theorem Ed {n:Nat}:∀ {m:bL},dW n (eD m)=[]
 | []=>rfl
 | (i,B) :: r=>by simp only[eD,dW,Ed]
theorem nH {n:Nat} {keep:Nat→Prop} [DecidablePred keep]:∀ {m:bL},dW n (oW keep (eD m))=[]
 | []=>rfl
 | (i,B) :: r=>by
  simp only[eD,oW]
  split
  ·simp only[dW,nH]
  ·exact nH
theorem MA {T:List (Nat × List SV)} {call:bG} {fr:Fr} {m:bL} {n:Nat} {keep:Nat→Prop} [DecidablePred keep] {op:SOp} {l:List Nat} (ht:touch fr op=some l) (hl:∀ i∈l,keep i)
  {v:SV} {mm:bL} {hi:Nat} (h:dP T call fr (eD m) n (fun a b c=>a=v∧b=mm∧c=hi) op) :
  ∃ mm',dW n mm'=dW n mm∧dP T call fr (oW keep (eD m)) n (fun a b c=>a=v∧b=mm'∧c=hi) op:=by
 have same:dW n (oW keep (eD m))=dW n (eD m):=by rw[Ed,nH]
 cases op with
 | mv x=>simp only[dP] at h ⊢;obtain⟨h1,rfl,h3⟩:=h;exact⟨_,same,h1,rfl,h3⟩
 | ext x i=>
  simp only[dP] at h ⊢
  split at h
  ·obtain⟨w,h0,h1,rfl,h3⟩:=h;exact⟨_,same,w,h0,h1,rfl,h3⟩
  ·exact h.elim
 | nilc x=>
  simp only[dP] at h ⊢
  split at h
  ·obtain⟨h1,rfl,h3⟩:=h;exact⟨_,same,h1,rfl,h3⟩
  ·obtain⟨h1,rfl,h3⟩:=h;exact⟨_,same,h1,rfl,h3⟩
  ·obtain⟨h1,rfl,h3⟩:=h;exact⟨_,same,h1,rfl,h3⟩
  ·exact h.elim
 | fld x o=>
  simp only[dP] at h ⊢
  split at h
  ·obtain⟨h1,rfl,h3⟩:=h;exact⟨_,same,h1,rfl,h3⟩
  ·obtain⟨h1,rfl,h3⟩:=h;exact⟨_,same,h1,rfl,h3⟩
  ·exact h.elim
 | slcA k s x lo hi'=>
  simp only[dP,iK,iF] at h ⊢
  split at h
  ·rename_i b o hx
   cases lo with
   | none=>
    cases hi' with
    | none=>obtain⟨g1,g2,g3,h1,rfl,h3⟩:=h;exact⟨_,same,g1,g2,g3,h1,rfl,h3⟩
    | some y=>
     simp only at h ⊢
     split at h
     ·obtain⟨g1,g2,g3,h1,rfl,h3⟩:=h;exact⟨_,same,g1,g2,g3,h1,rfl,h3⟩
     ·exact h.elim
   | some z=>
    simp only at h ⊢
    split at h
    ·cases hi' with
     | none=>obtain⟨g1,g2,g3,h1,rfl,h3⟩:=h;exact⟨_,same,g1,g2,g3,h1,rfl,h3⟩
     | some y=>
      simp only at h ⊢
      split at h
      ·obtain⟨g1,g2,g3,h1,rfl,h3⟩:=h;exact⟨_,same,g1,g2,g3,h1,rfl,h3⟩
      ·exact h.elim
    ·exact h.elim
  ·exact h.elim
 | new e z=>
  simp only[dP] at h ⊢
  obtain⟨h1,rfl,h3⟩:=h
  exact⟨_,by simp only[dW,same],h1,rfl,h3⟩
 | build z ps=>
  simp only[dP] at h ⊢
  obtain⟨r,g1,g2⟩:=sE _ _ _ h
  obtain⟨h1,rfl,h3⟩:=g1
  exact⟨_,same,u6 (fun x hx=>by subst hx;exact⟨h1,rfl,h3⟩) _ _ g2⟩
 | load g x=>
  simp only[touch] at ht
  simp only[dP] at h ⊢
  split at h
  ·rename_i i o hx
   simp only[hx,Option.some.injEq] at ht;subst ht
   obtain⟨B,hB,h⟩:=h
   have hB':rd (oW keep (eD m)) i=some B:=by rw[uC (hl i (by simp))];exact hB
   cases g with
   | none=>obtain⟨w,h0,h1,rfl,h3⟩:=h;exact⟨_,same,B,hB',w,h0,h1,rfl,h3⟩
   | some k=>obtain⟨h0,h1,rfl,h3⟩:=h;exact⟨_,same,B,hB',h0,h1,rfl,h3⟩
  ·obtain⟨cs,hcs,h⟩:=h
   cases g with
   | none=>obtain⟨w,h0,h1,rfl,h3⟩:=h;exact⟨_,same,cs,hcs,w,h0,h1,rfl,h3⟩
   | some k=>obtain⟨h0,h1,rfl,h3⟩:=h;exact⟨_,same,cs,hcs,h0,h1,rfl,h3⟩
  ·exact h.elim
 | arrAt k x=>
  simp only[touch] at ht
  simp only[dP] at h ⊢
  split at h
  ·rename_i b o _ len _ hx
   simp only[hx,Option.some.injEq] at ht;subst ht
   obtain⟨g1,g2,⟨B,hB,g3⟩,h1,rfl,h3⟩:=h
   exact⟨_,same,g1,g2,⟨B,by rw[uC (hl b (by simp))];exact hB,g3⟩,h1,rfl,h3⟩
  ·exact h.elim
 | idxS x i s=>
  simp only[touch] at ht
  simp only[dP,iF] at h ⊢
  split at h
  ·split at h
   ·rename_i b o s' len cap hx
    simp only[hx,Option.some.injEq] at ht;subst ht
    obtain⟨g1,g2,g3,B,hB,g4,h1,rfl,h3⟩:=h
    exact⟨_,same,g1,g2,g3,B,by rw[uC (hl b (by simp))];exact hB,g4,h1,rfl,h3⟩
   ·exact h.elim
  ·exact h.elim
 | slcS s x lo hi'=>
  simp only[touch] at ht
  simp only[dP,iK,iF] at h ⊢
  split at h
  ·rename_i b o s' len cap hx
   simp only[hx,Option.some.injEq] at ht;subst ht
   obtain⟨g0,g1,h⟩:=h
   have g1':(match (generalizing:=false) cap with
    | none=>∃ B,rd (oW keep (eD m)) b=some B∧o+len * s≤B.cells.length
    | some c=>len≤c):=by
    cases cap with
    | none=>obtain⟨B,hB,g⟩:=g1;exact⟨B,by rw[uC (hl b (by simp))];exact hB,g⟩
    | some c=>exact g1
   cases lo with
   | none=>
    cases hi' with
    | none=>obtain⟨k1,k2,k3,h1,rfl,h3⟩:=h;exact⟨_,same,g0,g1',k1,k2,k3,h1,rfl,h3⟩
    | some y=>
     simp only at h ⊢
     split at h
     ·obtain⟨k1,k2,k3,h1,rfl,h3⟩:=h;exact⟨_,same,g0,g1',k1,k2,k3,h1,rfl,h3⟩
     ·exact h.elim
   | some z=>
    simp only at h ⊢
    split at h
    ·cases hi' with
     | none=>obtain⟨k1,k2,k3,h1,rfl,h3⟩:=h;exact⟨_,same,g0,g1',k1,k2,k3,h1,rfl,h3⟩
     | some y=>
      simp only at h ⊢
      split at h
      ·obtain⟨k1,k2,k3,h1,rfl,h3⟩:=h;exact⟨_,same,g0,g1',k1,k2,k3,h1,rfl,h3⟩
      ·exact h.elim
    ·exact h.elim
  ·rename_i hx
   simp[hx] at ht
  ·exact h.elim
 | _=>simp[touch] at ht
def gQ (D:List DW) (S:Nat→Prop) (i:Nat):Prop:=∃ (j:Nat) (x:DW) (B:Blk),D[j]?=some x∧S j∧x.st=some (i,B)
def qR (m0:bL) (D:List DW) (S:Nat→Prop) (i:Nat) (B:Blk):Prop:=(i,B)∈m0∨∃ (q:Nat) (x:DW),D[q]?=some x∧S q∧(i,B)∈x.d.new
structure InvW (C:Ctx) (N nn nl:Nat) (fr0:Fr) (m0:bL) (D:List DW) (S:Nat→Prop) (ρ:dO) (a:Act) (w:World):Prop where
 base:∀ d v,(d,v)∈fr0→(∀ (j:Nat) (x:DW),D[j]?=some x→S j→x.d.dst≠some d)→∃ y,a.tmps[d]?=some y∧v.is (pJ ρ nn) y
 done:∀ (j:Nat) (x:DW) d,D[j]?=some x→S j→x.d.dst=some d→∃ y,a.tmps[d]?=some y∧x.d.v.is (pJ ρ x.d.hi) y
 oldB:∀ i B,(i,B)∈m0→i < nn∧∃ L,ρ i=some L∧(¬ gQ D S i→B.okAt (pJ ρ nn) w L)
 newB:∀ (j:Nat) (x:DW),D[j]?=some x→S j→∀ i B,(i,B)∈x.d.new→x.d.lo≤i∧i < x.d.hi∧∃ L,ρ i=some L∧(¬ gQ D S i→B.okAt (pJ ρ x.d.hi) w L)
 stB:∀ (j:Nat) (x:DW) i B,D[j]?=some x→S j→x.st=some (i,B)→B.own∧(∃ B0,qR m0 D S i B0∧B0.own)∧∃ L,ρ i=some L∧B.okAt (pJ ρ x.d.hi) w L
 apart:∀ i B j B' L L' b,qR m0 D S i B→qR m0 D S j B'→i≠j→B.own→ρ i=some L→ρ j=some L'→L.blk=some b→L'.blk≠some b
 wrt:∀ i B L b,qR m0 D S i B→B.own→ρ i=some L→L.blk=some b→C.w0.heap.size≤b∨C.wr b
 fresh1:∀ (j:Nat) (x:DW),D[j]?=some x→¬ S j→∀ k,x.d.lo≤k→k < x.d.hi→ρ k=none
 fresh2:∀ k,nl≤k→ρ k=none
 size:C.w0.heap.size≤w.heap.size
 frame:∀ b,b < C.w0.heap.size→¬ C.wr b→w.heap[b]?=C.w0.heap[b]?
 keep:∀ i,i < C.n0→ρ i=C.ρ0 i
 side:(w.os,w.tape)=(C.w0.os,C.w0.tape)∧w.output=C.w0.output
 defers:a.defers=[]
 asize:a.tmps.size=N
theorem xX {D:List DW} {j:Nat} {d:Dn}:(cV D)[j]?=some d↔∃ x,D[j]?=some x∧x.d=d:=by
 rw[wL,List.getElem?_map,Option.map_eq_some_iff]
section
variable {C:Ctx} {N nn nl:Nat} {fr0:Fr} {m0:bL} {D:List DW} {S:Nat→Prop} {ρ:dO} {a:Act} {w:World}
theorem AD {ρ:dO} {w:World} {B:Blk} {L:Loc} {b:Nat} (h:B.okAt ρ w L) (hb:L.blk=some b):b < w.heap.size:=by
 unfold Blk.okAt at h;rw[hb] at h;exact h.1
theorem InvW.there (I:InvW C N nn nl fr0 m0 D S ρ a w) {x:Nat} {B:Blk} (h:qR m0 D S x B):∃ L,ρ x=some L∧∀ b,L.blk=some b→b < w.heap.size:=by
 have hx:∃ L,ρ x=some L∧(¬ gQ D S x→∃ c,B.okAt (pJ ρ c) w L):=by
  rcases h with h|⟨q,y,g1,g2,g3⟩
  ·obtain⟨_,L,e1,e2⟩:=I.oldB x B h;exact⟨L,e1,fun h=>⟨_,e2 h⟩⟩
  ·obtain⟨_,_,L,e1,e2⟩:=I.newB q y g1 g2 x B g3;exact⟨L,e1,fun h=>⟨_,e2 h⟩⟩
 obtain⟨L,e1,e2⟩:=hx
 refine⟨L,e1,fun b hb=>?_⟩
 by_cases hs:gQ D S x
 ·obtain⟨j,y,B',g1,g2,g3⟩:=hs
  obtain⟨_,_,L',e3,e4⟩:=I.stB j y x B' g1 g2 g3
  rw[e1] at e3;cases e3
  exact AD e4 hb
 ·obtain⟨c,h⟩:=e2 hs
  exact AD h hb
theorem InvW.ctx (I:InvW C N nn nl fr0 m0 D S ρ a w) (X:CtxOk C) (lo:Nat):CtxOk (J6 C ρ lo w):=by
 constructor
 ·intro g cs h
  obtain⟨h1,h2⟩:=X.tab g cs h
  refine⟨Nat.lt_of_lt_of_le h1 I.size,fun j v hj=>?_⟩
  obtain⟨x,q1,q2,q3⟩:=h2 j v hj
  exact⟨x,by rw[← q1];exact fU (I.frame g h1 (X.nwr g cs h)),q2,q3⟩
 ·intro g cs _ h;exact h
theorem InvW.fr (I:InvW C N nn nl fr0 m0 D S ρ a w) {pre hide:List Nat} {lo:Nat} (hnn:nn≤lo) (hpre:∀ p∈pre,S p) (hlo:∀ p∈pre,∀ x,D[p]?=some x→x.d.hi≤lo)
  (hhide:∀ (j:Nat) (x:DW) d,D[j]?=some x→S j→x.d.dst=some d→d∈hide∨j∈pre) :
  ∀ d v,(d,v)∈iZ (bM (cV D) pre) (aU fr0 hide)→∃ y,a.tmps[d]?=some y∧v.is (pJ ρ lo) y:=by
 intro d v h
 rcases AC h with⟨Dj,h1,h2,rfl⟩|⟨h1,h2⟩
 ·obtain⟨j,hj,hDj⟩:=gY.1 h1
  obtain⟨x,hx,rfl⟩:=xX.1 hDj
  obtain⟨y,e1,e2⟩:=I.done j x d hx (hpre j hj) h2
  exact⟨y,e1,SV.is_mono (nF ρ (hlo j hj x hx)) _ _ e2⟩
 ·obtain⟨h3,h4⟩:=wI h1
  obtain⟨y,e1,e2⟩:=I.base d v h3 (fun j x hx hS hdst=>by
   rcases hhide j x d hx hS hdst with h5|h5
   ·exact h4 h5
   ·exact h2 x.d (gY.2 ⟨j,h5,xX.2 ⟨x,hx,rfl⟩⟩) hdst)
  exact⟨y,e1,SV.is_mono (nF ρ hnn) _ _ e2⟩
theorem InvW.see (I:InvW C N nn nl fr0 m0 D S ρ a w) {pre:List Nat} {lo:Nat} (hnn:nn≤lo) (hpre:∀ p∈pre,S p) (hlo:∀ p∈pre,∀ x,D[p]?=some x→x.d.hi≤lo)
  {i:Nat} {B:Blk} (h:(i,B)∈fH (bM (cV D) pre) m0):qR m0 D S i B∧i < lo∧∃ L,ρ i=some L∧(¬ gQ D S i→B.okAt (pJ ρ lo) w L):=by
 rcases uA h with⟨Dj,h2,h3⟩|h2
 ·obtain⟨j,hj,hDj⟩:=gY.1 h2
  obtain⟨x,hx,rfl⟩:=xX.1 hDj
  obtain⟨g1,g2,L,g3,g4⟩:=I.newB j x hx (hpre j hj) i B h3
  have:=hlo j hj x hx
  exact⟨.inr ⟨j,x,hx,hpre j hj,h3⟩,by omega,L,g3,fun hs=>(g4 hs).mono (nF ρ this) (fun _ _=>rfl) (Nat.le_refl _)⟩
 ·obtain⟨g1,L,g3,g4⟩:=I.oldB i B h2
  exact⟨.inl h2,by omega,L,g3,fun hs=>(g4 hs).mono (nF ρ hnn) (fun _ _=>rfl) (Nat.le_refl _)⟩
theorem InvW.rel (I:InvW C N nn nl fr0 m0 D S ρ a w) {pre hide:List Nat} {lo:Nat} (hnn:nn≤lo) (hpre:∀ p∈pre,S p) (hlo:∀ p∈pre,∀ x,D[p]?=some x→x.d.hi≤lo)
  (hhide:∀ (j:Nat) (x:DW) d,D[j]?=some x→S j→x.d.dst=some d→d∈hide∨j∈pre) [DecidablePred fun i=>¬ gQ D S i] :
  Rel (J6 C ρ lo w) N (pJ ρ lo) (iZ (bM (cV D) pre) (aU fr0 hide)) (oW (fun i=>¬ gQ D S i) (eD (fH (bM (cV D) pre) m0))) lo a w:=by
 constructor
 ·exact I.fr hnn hpre hlo hhide
 ·constructor
  ·intro i B h
   obtain⟨h1,hk⟩:=uB h
   obtain⟨B0,h2,rfl⟩:=kR h1
   obtain⟨_,g1,L,g3,g4⟩:=I.see hnn hpre hlo h2
   exact⟨L,by rw[nG _ g1];exact g3,Aq (g4 hk) (dO.le_refl _)⟩
  ·intro i B j B' L L' b h _ _ ho
   obtain⟨B0,_,rfl⟩:=kR (uB h).1
   exact absurd rfl ho
  ·intro i hi;exact Cl ρ hi
  ·intro i B L b h ho
   obtain⟨B0,_,rfl⟩:=kR (uB h).1
   exact absurd rfl ho
  ·exact Nat.le_refl _
  ·intro b _ _;rfl
  ·intro i _;rfl
  ·exact⟨rfl,rfl⟩
 ·exact I.defers
 ·exact I.asize
 ·exact Nat.le_refl _
theorem HO {i:Nat} {Di:DW} (hi:D[i]?=some Di) (hst:Di.st=none) {k:Nat}:gQ D (fun j=>S j∨j=i) k↔gQ D S k:=by
 constructor
 ·rintro⟨j,x,B,h1,h2|rfl,h3⟩
  ·exact⟨j,x,B,h1,h2,h3⟩
  ·rw[hi] at h1;cases h1;rw[hst] at h3;cases h3
 ·rintro⟨j,x,B,h1,h2,h3⟩;exact⟨j,x,B,h1,.inl h2,h3⟩
theorem InvW.step (I:InvW C N nn nl fr0 m0 D S ρ a w) {i:Nat} {Di:DW} (hi:D[i]?=some Di) (hst:Di.st=none) (hSi:¬ S i) (hnn:nn≤Di.d.lo) (hle:Di.d.lo≤Di.d.hi) (hnl:Di.d.hi≤nl) (hn0:C.n0≤nn)
  (hdist:∀ (j:Nat) (x:DW) d,D[j]?=some x→j≠i→x.d.dst=some d→Di.d.dst≠some d) (hdN:∀ d,Di.d.dst=some d→d < N)
  (hdisj:∀ (j:Nat) (x:DW),D[j]?=some x→j≠i→x.d.hi≤Di.d.lo∨Di.d.hi≤x.d.lo)
  {ρ':dO} {y:Value} {w':World} {mm:bL} (h1:(pJ ρ Di.d.lo).le ρ') (h2:Di.d.new=dW Di.d.lo mm) (h3:Di.d.v.is ρ' y) (h4:MemOk (J6 C ρ Di.d.lo w) ρ' mm Di.d.hi w') :
  ∃ ρ'',InvW C N nn nl fr0 m0 D (fun j=>S j∨j=i) ρ'' (a.put Di.d.dst y) w':=by
 let ρ2:dO:=fun x=>if Di.d.lo≤x∧x < Di.d.hi then ρ' x else ρ x
 have hfr:∀ x,Di.d.lo≤x→x < Di.d.hi→ρ x=none:=I.fresh1 i Di hi hSi
 have hout:∀ x,¬ (Di.d.lo≤x∧x < Di.d.hi)→ρ2 x=ρ x:=fun x hx=>by simp only[ρ2];rw[if_neg hx]
 have hin:∀ x,Di.d.lo≤x→x < Di.d.hi→ρ2 x=ρ' x:=fun x h h'=>by simp only[ρ2];rw[if_pos ⟨h,h'⟩]
 have hle2:ρ.le ρ2:=fun x L hx=>by
  by_cases hc:Di.d.lo≤x∧x < Di.d.hi
  ·rw[hfr x hc.1 hc.2] at hx;cases hx
  ·rw[hout x hc];exact hx
 have hlim:∀ c,(pJ ρ c).le (pJ ρ2 c):=fun c x L hx=>by
  unfold pJ at hx ⊢
  split at hx
  ·rename_i hxc;rw[if_pos hxc];exact hle2 x L hx
  ·cases hx
 have hnew:ρ'.le (pJ ρ2 Di.d.hi):=fun x L hx=>by
  have hxh:x < Di.d.hi:=by
   rcases Nat.lt_or_ge x Di.d.hi with h|h
   ·exact h
   ·rw[h4.fresh x h] at hx;cases hx
  rw[nG _ hxh]
  by_cases hxl:Di.d.lo≤x
  ·rw[hin x hxl hxh];exact hx
  ·rw[hout x (by omega)]
   have:=h4.keep x (by simp only[J6,EL];omega)
   rw[this] at hx
   simp only[J6,EL] at hx
   rw[nG _ (by omega)] at hx;exact hx
 have hold:∀ b,b < w.heap.size→w'.heap[b]?=w.heap[b]?:=fun b hb=>h4.frame b hb (fun h=>h)
 have hsz:w.heap.size≤w'.heap.size:=h4.size
 have okOld:∀ {c:Nat} {B:Blk} {L:Loc},B.okAt (pJ ρ c) w L→B.okAt (pJ ρ2 c) w' L:=fun {c B L} h=>
  h.mono (hlim c) (fun b hb=>hold b (AD h hb)) hsz
 have stEq:∀ k,gQ D (fun j=>S j∨j=i) k↔gQ D S k:=fun k=>HO hi hst
 -- an old block: where it lies
 have old:∀ x B,qR m0 D S x B→ρ2 x=ρ x∧∀ L b,ρ x=some L→L.blk=some b→b < w.heap.size:=by
  intro x B h
  obtain⟨L,e1,e2⟩:=I.there h
  refine⟨hout x (fun hc=>by rw[hfr x hc.1 hc.2] at e1;cases e1),fun L' b hL' hb=>?_⟩
  rw[e1] at hL';cases hL';exact e2 b hb
 -- a new block: where it lies
 have new:∀ x B,(x,B)∈Di.d.new→Di.d.lo≤x∧x < Di.d.hi∧(x,B)∈mm∧B.own∧ρ2 x=ρ' x∧∀ L b,ρ' x=some L→L.blk=some b→w.heap.size≤b:=by
  intro x B h
  rw[h2] at h
  obtain⟨g1,g2,g3⟩:=pZ h
  obtain⟨L,e1,e2⟩:=h4.blk x B g2
  have hxh:x < Di.d.hi:=by
   rcases Nat.lt_or_ge x Di.d.hi with h|h
   ·exact h
   ·rw[h4.fresh x h] at e1;cases e1
  refine⟨g1,hxh,g2,g3,hin x g1 hxh,fun L' b hL' hb=>?_⟩
  rcases h4.wrt x B L' b g2 g3 hL' hb with q|q
  ·exact q
  ·exact q.elim
 have split:∀ x B,qR m0 D (fun j=>S j∨j=i) x B→qR m0 D S x B∨(x,B)∈Di.d.new:=by
  intro x B h
  rcases h with h|⟨q,Dq,g1,g2|rfl,g3⟩
  ·exact .inl (.inl h)
  ·exact .inl (.inr ⟨q,Dq,g1,g2,g3⟩)
  ·rw[hi] at g1;cases g1;exact .inr g3
 refine⟨ρ2,?_⟩
 constructor
 ·intro d v hd hn
  obtain⟨x,e1,e2⟩:=I.base d v hd (fun j Dj hj hS=>hn j Dj hj (.inl hS))
  refine⟨x,?_,SV.is_mono (hlim nn) _ _ e2⟩
  have:=hn i Di hi (.inr rfl)
  unfold Act.put
  split
  ·rename_i t ht;rw[Array.getElem?_setIfInBounds_ne (fun e=>this (by rw[ht,e]))];exact e1
  ·exact e1
 ·intro j Dj d hj hS hd
  rcases hS with hS|rfl
  ·obtain⟨x,e1,e2⟩:=I.done j Dj d hj hS hd
   refine⟨x,?_,SV.is_mono (hlim _) _ _ e2⟩
   have:=hdist j Dj d hj (fun e=>hSi (e ▸ hS)) hd
   unfold Act.put
   split
   ·rename_i t ht;rw[Array.getElem?_setIfInBounds_ne (fun e=>this (by rw[ht,e]))];exact e1
   ·exact e1
  ·rw[hi] at hj;cases hj
   refine⟨y,?_,SV.is_mono hnew _ _ h3⟩
   have:=hdN d hd
   simp[Act.put,hd,I.asize,this]
 ·intro x B h
  obtain⟨g1,L,g3,g4⟩:=I.oldB x B h
  exact⟨g1,L,by rw[(old x B (.inl h)).1];exact g3,fun hs=>okOld (g4 (fun h=>hs ((stEq x).2 h)))⟩
 ·intro j Dj hj hS x B h
  rcases hS with hS|rfl
  ·obtain⟨g1,g2,L,g3,g4⟩:=I.newB j Dj hj hS x B h
   exact⟨g1,g2,L,by rw[(old x B (.inr ⟨j,Dj,hj,hS,h⟩)).1];exact g3,fun hs=>okOld (g4 (fun h=>hs ((stEq x).2 h)))⟩
  ·rw[hi] at hj;cases hj
   obtain⟨g1,g2,g3,g4,g5,g6⟩:=new x B h
   obtain⟨L,e1,e2⟩:=h4.blk x B g3
   exact⟨g1,g2,L,by rw[g5];exact e1,fun _=>e2.mono hnew (fun _ _=>rfl) (Nat.le_refl _)⟩
 ·intro j x k B hj hS hx
  rcases hS with hS|rfl
  ·obtain⟨e1,⟨B0,e2,e3⟩,L,e4,e5⟩:=I.stB j x k B hj hS hx
   refine⟨e1,⟨B0,?_,e3⟩,L,by rw[(old k B0 e2).1];exact e4,okOld e5⟩
   rcases e2 with h|⟨q,z,g1,g2,g3⟩
   ·exact .inl h
   ·exact .inr ⟨q,z,g1,.inl g2,g3⟩
  ·rw[hi] at hj;cases hj;rw[hst] at hx;cases hx
 ·intro x B z B' L L' b hx hz hxz ho hL hL' hb
  rcases split x B hx with hx|hx
  ·obtain⟨o1,o2⟩:=old x B hx
   rw[o1] at hL
   rcases split z B' hz with hz|hz
   ·rw[(old z B' hz).1] at hL'
    exact I.apart x B z B' L L' b hx hz hxz ho hL hL' hb
   ·obtain⟨_,_,g3,g4,g5,g6⟩:=new z B' hz
    rw[g5] at hL'
    intro hb'
    have:=g6 L' b hL' hb'
    have:=o2 L b hL hb
    omega
  ·obtain⟨_,_,g3,g4,g5,g6⟩:=new x B hx
   rw[g5] at hL
   rcases split z B' hz with hz|hz
   ·obtain⟨o1,o2⟩:=old z B' hz
    rw[o1] at hL'
    intro hb'
    have:=g6 L b hL hb
    have:=o2 L' b hL' hb'
    omega
   ·obtain⟨_,_,k3,k4,k5,k6⟩:=new z B' hz
    rw[k5] at hL'
    exact h4.apart x B z B' L L' b g3 k3 hxz ho hL hL' hb
 ·intro x B L b hx ho hL hb
  rcases split x B hx with hx|hx
  ·rw[(old x B hx).1] at hL
   exact I.wrt x B L b hx ho hL hb
  ·obtain⟨_,_,g3,g4,g5,g6⟩:=new x B hx
   rw[g5] at hL
   exact .inl (Nat.le_trans I.size (g6 L b hL hb))
 ·intro j Dj hj hS x h h'
  have hji:j≠i:=fun e=>hS (.inr e)
  rw[hout x (fun hc=>by rcases hdisj j Dj hj hji with q|q <;> omega)]
  exact I.fresh1 j Dj hj (fun h=>hS (.inl h)) x h h'
 ·intro x hx
  rw[hout x (by omega)];exact I.fresh2 x hx
 ·exact Nat.le_trans I.size hsz
 ·intro b hb hwr
  rw[hold b (Nat.lt_of_lt_of_le hb I.size)];exact I.frame b hb hwr
 ·intro x hx
  rw[hout x (by omega)];exact I.keep x hx
 ·exact⟨h4.side.1.trans I.side.1,h4.side.2.trans I.side.2⟩
 ·rw[qP];exact I.defers
 ·rw[wJ];exact I.asize
theorem InvW.skip (I:InvW C N nn nl fr0 m0 D S ρ a w) {i:Nat} {Di:DW} (hi:D[i]?=some Di) (hst:Di.st=none) (hSi:¬ S i) (hv:Di.d.v=.val undef) (hnew:Di.d.new=[]) (hhi:Di.d.hi=Di.d.lo) (hnn:nn≤Di.d.lo) (hnl:Di.d.hi≤nl) (hn0:C.n0≤nn)
  (hdist:∀ (j:Nat) (x:DW) d,D[j]?=some x→j≠i→x.d.dst=some d→Di.d.dst≠some d) (hdN:∀ d,Di.d.dst=some d→d < N)
  (hdisj:∀ (j:Nat) (x:DW),D[j]?=some x→j≠i→x.d.hi≤Di.d.lo∨Di.d.hi≤x.d.lo) :
  ∃ ρ'',InvW C N nn nl fr0 m0 D (fun j=>S j∨j=i) ρ'' (a.put Di.d.dst undef) w:=by
 refine I.step hi hst hSi hnn (by omega) hnl hn0 hdist hdN hdisj (ρ':=pJ ρ Di.d.lo) (mm:=[]) (dO.le_refl _) (by rw[hnew];rfl) (by rw[hv];simp only[SV.is]) ?_
 rw[hhi]
 exact⟨by simp,by simp,fun i hi=>Cl ρ hi,by simp,Nat.le_refl _,fun _ _ _=>rfl,fun _ _=>rfl,rfl,rfl⟩
def UF (C:Ctx) (ρ:dO) (lo b:Nat) (w:World):Ctx:=⟨C.P,w,pJ ρ lo,lo,fun p=>∃ L,ρ b=some L∧L.blk=some p,C.T⟩
theorem InvW.relS (I:InvW C N nn nl fr0 m0 D S ρ a w) (X:CtxOk C) {pre hide:List Nat} {lo:Nat} (hnn:nn≤lo) (hpre:∀ p∈pre,S p) (hlo:∀ p∈pre,∀ x,D[p]?=some x→x.d.hi≤lo)
  (hhide:∀ (j:Nat) (x:DW) d,D[j]?=some x→S j→x.d.dst=some d→d∈hide∨j∈pre)
  {b:Nat} {B0:Blk} (hb:rd (fH (bM (cV D) pre) m0) b=some B0) (hown:B0.own) (hns:¬ gQ D S b) :
  Rel (UF C ρ lo b w) N (pJ ρ lo) (iZ (bM (cV D) pre) (aU fr0 hide)) [(b,B0)] lo a w∧CtxOk (UF C ρ lo b w):=by
 obtain⟨hE,g1,L,g3,g4⟩:=I.see hnn hpre hlo (fM hb)
 refine⟨⟨I.fr hnn hpre hlo hhide,?_,I.defers,I.asize,Nat.le_refl _⟩,?_,?_⟩
 ·constructor
  ·intro i B h
   simp at h
   obtain⟨rfl,rfl⟩:=h
   exact⟨L,by rw[nG _ g1];exact g3,g4 hns⟩
  ·intro i B j B' L L' b' hi hj hij
   simp at hi hj
   exact absurd (hi.1.trans hj.1.symm) hij
  ·intro i hi;exact Cl ρ hi
  ·intro i B L' b' h _ hL hbb
   simp at h
   obtain⟨rfl,rfl⟩:=h
   rw[nG _ g1] at hL
   exact .inr ⟨L',hL,hbb⟩
  ·exact Nat.le_refl _
  ·intro b _ _;rfl
  ·intro i _;rfl
  ·exact⟨rfl,rfl⟩
 ·intro g cs h
  obtain⟨h1,h2⟩:=X.tab g cs h
  refine⟨Nat.lt_of_lt_of_le h1 I.size,fun j v hj=>?_⟩
  obtain⟨x,q1,q2,q3⟩:=h2 j v hj
  exact⟨x,by rw[← q1];exact fU (I.frame g h1 (X.nwr g cs h)),q2,q3⟩
 ·rintro g cs h ⟨L',e1,e2⟩
  obtain⟨h1,_⟩:=X.tab g cs h
  rcases I.wrt b _ L' g hE hown e1 e2 with q|q
  ·omega
  ·exact X.nwr g cs h q
theorem InvW.store (I:InvW C N nn nl fr0 m0 D S ρ a w) {i:Nat} {Di:DW} (hi:D[i]?=some Di) {b:Nat} {B0 B1:Blk} {pre:List Nat} (hown0:B0.own) (hown1:B1.own) (hst:Di.st=some (b,B1)) (hSi:¬ S i)
  (hnn:nn≤Di.d.lo) (hhi:Di.d.hi=Di.d.lo) (hnew:Di.d.new=[]) (hv:Di.d.v=.any)
  (hpre:∀ p∈pre,S p) (hlo:∀ p∈pre,∀ x,D[p]?=some x→x.d.hi≤Di.d.lo)
  (hb:rd (fH (bM (cV D) pre) m0) b=some B0) (hns:¬ gQ D S b)
  (hdist:∀ (j:Nat) (x:DW) d,D[j]?=some x→j≠i→x.d.dst=some d→Di.d.dst≠some d) (hdN:∀ d,Di.d.dst=some d→d < N)
  {ρ':dO} {y:Value} {w':World} (h4:MemOk (UF C ρ Di.d.lo b w) ρ' [(b,B1)] Di.d.lo w') :
  InvW C N nn nl fr0 m0 D (fun j=>S j∨j=i) ρ (a.put Di.d.dst y) w':=by
 obtain⟨hE,g1,L,g3,g4⟩:=I.see hnn hpre hlo (fM hb)
 have hρ:ρ'=pJ ρ Di.d.lo:=by
  funext k
  rcases Nat.lt_or_ge k Di.d.lo with h|h
  ·exact h4.keep k h
  ·rw[Cl ρ h];exact h4.fresh k h
 subst hρ
 have hsz:w.heap.size≤w'.heap.size:=h4.size
 have hold:∀ p,p < w.heap.size→L.blk≠some p→w'.heap[p]?=w.heap[p]?:=fun p hp hne=>h4.frame p hp (fun ⟨L',e1,e2⟩=>by
  rw[g3] at e1;cases e1;exact hne e2)
 -- another block keeps what it holds
 have okOther:∀ {c k:Nat} {B B0:Blk} {L':Loc},qR m0 D S k B0→k≠b→ρ k=some L'→B.okAt (pJ ρ c) w L'→B.okAt (pJ ρ c) w' L':=fun {c k B B0 L'} hk hkb hL' h=>
  h.mono (dO.le_refl _) (fun p hp=>hold p (AD h hp) (fun hLp=>I.apart b _ k B0 L L' p hE hk (Ne.symm hkb) hown0 g3 hL' hLp hp)) hsz
 have entEq:∀ {k B},qR m0 D (fun j=>S j∨j=i) k B↔qR m0 D S k B:=by
  intro k B
  constructor
  ·rintro (h|⟨q,z,e1,e2|rfl,e3⟩)
   ·exact .inl h
   ·exact .inr ⟨q,z,e1,e2,e3⟩
   ·rw[hi] at e1;cases e1;rw[hnew] at e3;simp at e3
  ·rintro (h|⟨q,z,e1,e2,e3⟩)
   ·exact .inl h
   ·exact .inr ⟨q,z,e1,.inl e2,e3⟩
 have stB':gQ D (fun j=>S j∨j=i) b:=⟨i,Di,_,hi,.inr rfl,hst⟩
 have stLe:∀ {k},gQ D S k→gQ D (fun j=>S j∨j=i) k:=fun ⟨j,x,B,e1,e2,e3⟩=>⟨j,x,B,e1,.inl e2,e3⟩
 constructor
 ·intro d v hd hn
  obtain⟨x,e1,e2⟩:=I.base d v hd (fun j Dj hj hS=>hn j Dj hj (.inl hS))
  refine⟨x,?_,e2⟩
  have:=hn i Di hi (.inr rfl)
  unfold Act.put
  split
  ·rename_i t ht;rw[Array.getElem?_setIfInBounds_ne (fun e=>this (by rw[ht,e]))];exact e1
  ·exact e1
 ·intro j Dj d hj hS hd
  rcases hS with hS|rfl
  ·obtain⟨x,e1,e2⟩:=I.done j Dj d hj hS hd
   refine⟨x,?_,e2⟩
   have:=hdist j Dj d hj (fun e=>hSi (e ▸ hS)) hd
   unfold Act.put
   split
   ·rename_i t ht;rw[Array.getElem?_setIfInBounds_ne (fun e=>this (by rw[ht,e]))];exact e1
   ·exact e1
  ·rw[hi] at hj;cases hj
   refine⟨y,?_,by rw[hv];simp only[SV.is]⟩
   have:=hdN d hd
   simp[Act.put,hd,I.asize,this]
 ·intro k B h
  obtain⟨q1,L',q3,q4⟩:=I.oldB k B h
  refine⟨q1,L',q3,fun hs=>?_⟩
  have hkb:k≠b:=fun e=>hs (e ▸ stB')
  exact okOther (.inl h) hkb q3 (q4 fun h=>hs (stLe h))
 ·intro j Dj hj hS k B h
  rcases hS with hS|rfl
  ·obtain⟨q1,q2,L',q3,q4⟩:=I.newB j Dj hj hS k B h
   refine⟨q1,q2,L',q3,fun hs=>?_⟩
   have hkb:k≠b:=fun e=>hs (e ▸ stB')
   exact okOther (.inr ⟨j,Dj,hj,hS,h⟩) hkb q3 (q4 fun h=>hs (stLe h))
  ·rw[hi] at hj;cases hj;rw[hnew] at h;simp at h
 ·intro j x k B hj hS hx
  rcases hS with hS|rfl
  ·obtain⟨e1,⟨B0,e2,e3⟩,L',e4,e5⟩:=I.stB j x k B hj hS hx
   have hkb:k≠b:=fun e=>hns (e ▸ ⟨j,x,B,hj,hS,hx⟩)
   exact⟨e1,⟨B0,entEq.2 e2,e3⟩,L',e4,okOther e2 hkb e4 e5⟩
  ·rw[hi] at hj;cases hj
   rw[hst] at hx;cases hx
   refine⟨hown1,⟨_,entEq.2 hE,hown0⟩,L,g3,?_⟩
   obtain⟨L',e1,e2⟩:=h4.blk b _ List.mem_cons_self
   rw[nG _ g1,g3] at e1;cases e1
   rw[hhi];exact e2
 ·intro k B z B' L1 L2 p hk hz;exact I.apart k B z B' L1 L2 p (entEq.1 hk) (entEq.1 hz)
 ·intro k B L1 p hk;exact I.wrt k B L1 p (entEq.1 hk)
 ·intro j Dj hj hS;exact I.fresh1 j Dj hj (fun h=>hS (.inl h))
 ·exact I.fresh2
 ·exact Nat.le_trans I.size hsz
 ·intro p hp hwr
  rw[hold p (Nat.lt_of_lt_of_le hp I.size) (fun hL=>by
   rcases I.wrt b _ L p hE hown0 g3 hL with q|q
   ·omega
   ·exact hwr q)]
  exact I.frame p hp hwr
 ·exact I.keep
 ·exact⟨h4.side.1.trans I.side.1,h4.side.2.trans I.side.2⟩
 ·rw[qP];exact I.defers
 ·rw[wJ];exact I.asize
theorem As:∀ {l:List DW} {m:bL} {i:Nat} {B:Blk},(i,B)∈lZ l m→(∃ x∈l,x.st=some (i,B))∨((i,B)∈m∧∀ x∈l,∀ B',x.st≠some (i,B'))
 | [],m,i,B,h=>.inr ⟨h,by simp⟩
 | x :: l,m,i,B,h=>by
  unfold lZ at h
  split at h
  ·rename_i b B1 hx
   rcases nC h with h|⟨h,hne⟩
   ·cases h;exact .inl ⟨x,List.mem_cons_self,hx⟩
   ·rcases As h with⟨y,h1,h2⟩|⟨h1,h2⟩
    ·exact .inl ⟨y,List.mem_cons_of_mem _ h1,h2⟩
    ·refine .inr ⟨h1,fun y hy B' hy'=>?_⟩
     rcases List.mem_cons.1 hy with rfl|hy
     ·rw[hx] at hy';cases hy';exact hne rfl
     ·exact h2 y hy B' hy'
  ·rename_i hx
   rcases As h with⟨y,h1,h2⟩|⟨h1,h2⟩
   ·exact .inl ⟨y,List.mem_cons_of_mem _ h1,h2⟩
   ·refine .inr ⟨h1,fun y hy B' hy'=>?_⟩
    rcases List.mem_cons.1 hy with rfl|hy
    ·rw[hx] at hy';cases hy'
    ·exact h2 y hy B' hy'
theorem InvW.whole (I:InvW C N nn nl fr0 m0 D S ρ a w) (hall:∀ (j:Nat) (x:DW),D[j]?=some x→S j) (hn:nn≤nl) (hhi:∀ (j:Nat) (x:DW),D[j]?=some x→x.d.hi≤nl) (hn0:C.n0≤nn) (ks:List Nat) :
  Rel C N ρ (aU (iZ (cV D).reverse fr0) ks) (lZ D (fH (cV D).reverse m0)) nl a w:=by
 have hbase:∀ {Dj:Dn},Dj∈(cV D).reverse→∃ (q:Nat) (x:DW),D[q]?=some x∧x.d=Dj:=by
  intro Dj h
  obtain⟨q,hq⟩:=List.getElem?_of_mem (List.mem_reverse.1 h)
  obtain⟨x,h1,h2⟩:=xX.1 hq
  exact⟨q,x,h1,h2⟩
 have hent:∀ i B,(i,B)∈fH (cV D).reverse m0→qR m0 D S i B:=by
  intro i B h
  rcases uA h with⟨Dj,h1,h2⟩|h1
  ·obtain⟨q,x,hq,rfl⟩:=hbase h1
   exact .inr ⟨q,x,hq,hall q x hq,h2⟩
  ·exact .inl h1
 have hfin:∀ i B,(i,B)∈lZ D (fH (cV D).reverse m0)→(∃ L,ρ i=some L∧B.okAt ρ w L)∧∃ B0,qR m0 D S i B0∧(B.own→B0.own):=by
  intro i B h
  rcases As h with⟨x,h1,h2⟩|⟨h1,h2⟩
  ·obtain⟨q,hq⟩:=List.getElem?_of_mem h1
   obtain⟨_,⟨B0,e2,e3⟩,L,e4,e5⟩:=I.stB q x i B hq (hall q x hq) h2
   exact⟨⟨L,e4,e5.mono (s7 ρ _) (fun _ _=>rfl) (Nat.le_refl _)⟩,B0,e2,fun _=>e3⟩
  ·have hE:=hent i B h1
   have hns:¬ gQ D S i:=fun ⟨j,x,B',e1,_,e3⟩=>h2 x (List.mem_of_getElem? e1) B' e3
   refine⟨?_,B,hE,fun h=>h⟩
   rcases hE with h|⟨q,x,g1,g2,g3⟩
   ·obtain⟨_,L,e1,e2⟩:=I.oldB i B h
    exact⟨L,e1,(e2 hns).mono (s7 ρ _) (fun _ _=>rfl) (Nat.le_refl _)⟩
   ·obtain⟨_,_,L,e1,e2⟩:=I.newB q x g1 g2 i B g3
    exact⟨L,e1,(e2 hns).mono (s7 ρ _) (fun _ _=>rfl) (Nat.le_refl _)⟩
 constructor
 ·intro d v h
  rcases AC (wI h).1 with⟨Dj,h1,h2,rfl⟩|⟨h1,h2⟩
  ·obtain⟨q,x,hq,rfl⟩:=hbase h1
   obtain⟨y,e1,e2⟩:=I.done q x d hq (hall q x hq) h2
   exact⟨y,e1,SV.is_mono (s7 ρ _) _ _ e2⟩
  ·obtain⟨y,e1,e2⟩:=I.base d v h1 (fun j x hj _=>h2 x.d (List.mem_reverse.2 (by rw[wL];exact List.mem_map.2 ⟨x,List.mem_of_getElem? hj,rfl⟩)))
   exact⟨y,e1,SV.is_mono (s7 ρ _) _ _ e2⟩
 ·constructor
  ·intro i B h;exact (hfin i B h).1
  ·intro i B j B' L L' b hi hj hij ho
   obtain⟨_,B0,e1,e2⟩:=hfin i B hi
   obtain⟨_,B1,e3,_⟩:=hfin j B' hj
   exact I.apart i B0 j B1 L L' b e1 e3 hij (e2 ho)
  ·exact I.fresh2
  ·intro i B L b hi ho
   obtain⟨_,B0,e1,e2⟩:=hfin i B hi
   exact I.wrt i B0 L b e1 (e2 ho)
  ·exact I.size
  ·exact I.frame
  ·exact I.keep
  ·exact I.side
 ·exact I.defers
 ·exact I.asize
 ·omega
theorem InvW.start {n:Nat} (R:Rel C N ρ fr0 m0 n a w) (hD:∀ (j:Nat) (x:DW),D[j]?=some x→n≤x.d.lo) (hnl:n≤nl):InvW C N n nl fr0 m0 D (fun _=>False) ρ a w:=by
 have hl:∀ i L,ρ i=some L→i < n:=fun i L h=>by
  rcases Nat.lt_or_ge i n with h'|h'
  ·exact h'
  ·rw[R.mem.fresh i h'] at h;cases h
 have hle:ρ.le (pJ ρ n):=fun i L h=>by rw[nG _ (hl i L h)];exact h
 have hent:∀ {i B},qR m0 D (fun _=>False) i B→(i,B)∈m0:=by
  rintro i B (h|⟨_,_,_,h,_⟩)
  ·exact h
  ·exact h.elim
 constructor
 ·intro d v h _
  obtain⟨x,e1,e2⟩:=R.fr d v h
  exact⟨x,e1,SV.is_mono hle _ _ e2⟩
 ·intro _ _ _ _ h;exact h.elim
 ·intro i B h
  obtain⟨L,e1,e2⟩:=R.mem.blk i B h
  exact⟨hl i L e1,L,e1,fun _=>e2.mono hle (fun _ _=>rfl) (Nat.le_refl _)⟩
 ·intro _ _ _ h;exact h.elim
 ·intro _ _ _ _ _ h;exact h.elim
 ·intro i B j B' L L' b hi hj;exact R.mem.apart i B j B' L L' b (hent hi) (hent hj)
 ·intro i B L b hi;exact R.mem.wrt i B L b (hent hi)
 ·intro j x hj _ k hk _
  exact R.mem.fresh k (Nat.le_trans (hD j x hj) hk)
 ·intro k hk;exact R.mem.fresh k (by omega)
 ·exact R.mem.size
 ·exact R.mem.frame
 ·exact R.mem.keep
 ·exact R.mem.side
 ·exact R.defers
 ·exact R.size
end
theorem Ee {keep:Nat→Prop} [DecidablePred keep]:∀ {m:bL},(∀ i,keep i)→oW keep m=m
 | [],_=>rfl
 | (i,B) :: r,h=>by unfold oW;rw[if_pos (h i),Ee h]
section
variable {C:Ctx} {N:Nat}
theorem NQ (X:CtxOk C) {id:Nat} {ops:Array Oper} {qs:List Opr} {k:Nat} (hc:HM C.P N ops.toList qs k=true) {fr:Fr} {m:bL} {n:Nat} {ρ:dO} {a:Act} {w:World}
  {F:Fr→bL→Nat→Prop} {Q:Exit→Act→World→Prop}
  (hF:HN C.T (aY C.P C.T) fr m (qs.take k) [] n fun done n'=>z6 C.T (aY C.P C.T) (qs.drop k) (aU (iZ (cV done).reverse fr) (jJ (qs.take k))) (lZ done (fH (cV done).reverse m)) n' F)
  (R:Rel C N ρ fr m n a w) (hQ:∀ ρ' fr' m' n' a' w',F fr' m' n'→Rel C N ρ' fr' m' n' a' w'→Q .normal a' w') :
  (Code.region id ops true).wp C.P Q a w:=by
 classical
 unfold HM at hc
 simp only[Bool.and_eq_true,decide_eq_true_eq] at hc
 obtain⟨⟨⟨⟨⟨⟨k1,k2⟩,k3⟩,k4⟩,k5⟩,k6⟩,k7⟩:=hc
 obtain⟨hlen,hget⟩:=u7 k2
 have hpre:∀ i,i < qs.length→vU ops.toList qs i=true:=fun i hi=>gJ k3 hi
 have hlast:∀ (i:Nat) q,qs[i]?=some q→k≤i→∀ j < i,j∈q.pre:=by
  intro i q hq hki j hj
  have hi:i < qs.length:=by
   rcases Nat.lt_or_ge i qs.length with h|h
   ·exact h
   ·rw[List.getElem?_eq_none h] at hq;cases hq
  have:=gJ k6 hi
  simp only[hq,Bool.or_eq_true,decide_eq_true_eq] at this
  rcases this with h|h
  ·omega
  ·simpa using gJ h hj
 obtain⟨D,nl,h1,h2,h3,h4,h5⟩:=Ec (aN C.P C.T) (qs.take k) [] n _ hF
 simp only[List.nil_append] at h1 h4
 have hDk:D.length=k:=by rw[h2];simp;omega
 have hDq:∀ (j:Nat) (x:DW),D[j]?=some x→j < k∧∃ q,qs[j]?=some q∧KI C.T (aY C.P C.T) fr m (D.take j) q x∧x.d.dst=q.dst∧n≤x.d.lo∧x.d.lo≤x.d.hi∧x.d.hi≤nl:=by
  intro j x hj
  have hjk:j < k:=by
   rcases Nat.lt_or_ge j D.length with h|h
   ·omega
   ·rw[List.getElem?_eq_none h] at hj;cases hj
  have hjq:j < qs.length:=by omega
  refine⟨hjk,qs[j],List.getElem?_eq_getElem hjq,?_⟩
  obtain⟨d,g1,g2,g3,g4⟩:=h4 j qs[j] (by rw[List.getElem?_take_of_lt hjk];exact List.getElem?_eq_getElem hjq)
  rw[hj] at g1;cases g1;exact⟨g2,g3,g4⟩
 refine wp_region_any k1 ?_
 have R1:Rel C N ρ fr m n a { w with drawn:=w.drawn+1 }:=⟨R.fr,R.mem.heap_eq rfl ⟨rfl,rfl⟩,R.defers,R.size,R.n0⟩
 have hhiAll:∀ (j:Nat) (x:DW),D[j]?=some x→x.d.hi≤nl:=fun j x hj=>by
  obtain⟨_,q,_,_,_,_,_,g⟩:=hDq j x hj;exact g
 -- the first phase
 have phase1:∀ (fuel:Nat) (listed:Array Bool) (ρ:dO) (a:Act) (w:World),listed.size=qs.length→J7 listed+fuel=qs.length→(∀ j,listed[j]?=some true→j < k) →
   (∀ (j:Nat) (o:Oper),ops.toList[j]?=some o→listed[j]?=some true→∀ e∈t9 o,listed[e]?=some true) →
   InvW C N n nl fr m D (fun j=>listed[j]?=some true) ρ a w→wpAny C.P .any ops Q fuel listed a w:=by
  intro fuel
  induction fuel with
  | zero=>
   intro listed ρ a w hsz hcnt hlk hcl I
   have hall:∀ j,j < qs.length→listed[j]?=some true:=fun j hj=>KH (by omega) j (by omega)
   have hkq:k=qs.length:=by
    rcases Nat.lt_or_ge k qs.length with h|h
    ·have:=hlk k (hall k h);omega
    ·omega
   exact CD X k2 hpre hlast hQ 0 k (Nat.le_refl _) (by omega) listed _ _ nl ρ a w hsz (fun j=>⟨hlk j,fun h=>hall j (by omega)⟩) h1 (I.whole (fun j x hj=>hall j (by have:=(hDq j x hj).1;omega)) h3 hhiAll R.n0 _)
  | succ fuel ih=>
   intro listed ρ a w hsz hcnt hlk hcl I
   by_cases hall:∀ j,j < k→listed[j]?=some true
   ·have hfk:k+(fuel+1)=qs.length:=by
     have:J7 listed=k:=Co (fun j=>⟨hlk j,hall j⟩) (by omega)
     omega
    exact CD X k2 hpre hlast hQ (fuel+1) k (Nat.le_refl _) hfk listed _ _ nl ρ a w hsz (fun j=>⟨hlk j,hall j⟩) h1 (I.whole (fun j x hj=>hall j (hDq j x hj).1) h3 hhiAll R.n0 _)
   ·have hnot:∀ j∈Region.ready .any ops listed,j < k:=by
     intro j hj
     obtain⟨o,g1,g2,g3⟩:=kT.1 hj
     have hjf:=jE.1 g2
     have hjq:j < qs.length:=by
      rcases Nat.lt_or_ge j listed.size with h|h
      ·omega
      ·rw[Array.getElem?_eq_none h] at hjf;cases hjf
     rcases Nat.lt_or_ge j k with h|h
     ·exact h
     ·exfalso
      refine hall fun q hq=>?_
      exact kE (by simpa using hlen) hpre (S:=fun j=>listed[j]?=some true) hcl j o qs[j] g1 (List.getElem?_eq_getElem hjq) (fun e he=>jX.1 (g3 e he)) q
       (hlast j _ (List.getElem?_eq_getElem hjq) h q (by omega))
    refine⟨fun hnil=>?_,fun i hi=>?_⟩
    ·exfalso
     refine hall ?_
     have:∀ j,j < qs.length→listed[j]?=some true:=by
      intro j
      induction j using Nat.strongRecOn with
      | _ j ih2=>
       intro hj
       cases hb:listed[j]? with
       | none=>rw[Array.getElem?_eq_none_iff] at hb;omega
       | some b=>
        cases b with
        | true=>rfl
        | false=>
         have hjo:j < ops.toList.length:=by omega
         have hp:=hpre j hj
         unfold vU at hp
         rw[List.getElem?_eq_getElem hjo,List.getElem?_eq_getElem hj] at hp
         simp only[Bool.and_eq_true,List.all_eq_true,decide_eq_true_eq] at hp
         have:j∈Region.ready .any ops listed:=kT.2 ⟨_,List.getElem?_eq_getElem hjo,jE.2 hb,fun e he=>jX.2 (ih2 e (hp.1 e he) (by have:=hp.1 e he;omega))⟩
         rw[hnil] at this;cases this
     exact fun j hj=>this j (by omega)
    ·have hik:=hnot i hi
     obtain⟨o,g1,g2,g3⟩:=kT.1 hi
     have hif:=jE.1 g2
     have hiq:i < qs.length:=by omega
     have hq:qs[i]?=some qs[i]:=List.getElem?_eq_getElem hiq
     obtain⟨c1,c2,c3,c4⟩:=hget i o _ g1 hq
     have hiD:i < D.length:=by omega
     have hDi:D[i]?=some D[i]:=List.getElem?_eq_getElem hiD
     obtain⟨_,q',hq',hstep,s1,s4,s2,s5⟩:=hDq i _ hDi
     rw[hq] at hq';cases hq'
     have hprei:=hpre i hiq
     unfold vU at hprei
     rw[g1,hq] at hprei
     simp only[Bool.and_eq_true,List.all_eq_true,decide_eq_true_eq] at hprei
     have hpS:∀ p∈qs[i].pre,listed[p]?=some true:=kE (by simpa using hlen) hpre (S:=fun j=>listed[j]?=some true) hcl i o _ g1 hq (fun e he=>jX.1 (g3 e he))
     have hpick:bM (cV (D.take i)) qs[i].pre=bM (cV D) qs[i].pre:=by
      have hall2:∀ l:List Nat,(∀ p∈l,p < i)→bM (cV (D.take i)) l=bM (cV D) l:=by
       intro l
       induction l with
       | nil=>intro _;rfl
       | cons p l ihl=>
        intro hl
        have e:(cV (D.take i))[p]?=(cV D)[p]?:=by
         rw[wL,wL,List.getElem?_map,List.getElem?_map,List.getElem?_take_of_lt (hl p List.mem_cons_self)]
        unfold bM
        rw[e,ihl (fun q hq=>hl q (List.mem_cons_of_mem _ hq))]
      exact hall2 _ fun p hp=>(hprei.2 p hp).1
     have hnS:¬ (listed[i]?=some true):=by rw[hif];simp
     have hhide:∀ (j:Nat) (x:DW) d,D[j]?=some x→listed[j]?=some true→x.d.dst=some d→d∈qs[i].hide∨j∈qs[i].pre:=by
      intro j x d hj hjS hd
      obtain⟨hjk,qj,hqj,_,t1,_⟩:=hDq j x hj
      have hji:j≠i:=fun e=>by rw[e,hif] at hjS;cases hjS
      have hh:=gJ k4 hiq
      unfold J5 at hh
      simp only[hq] at hh
      have:=gJ hh (show j < qs.length by omega)
      rw[hqj] at this
      simp only[Bool.or_eq_true,beq_iff_eq] at this
      rcases this with h|h
      ·exact absurd h hji
      ·rw[← t1,hd] at h
       simp only[Bool.or_eq_true] at h
       rcases h with (h|h)|h
       ·exact .inl (by simpa using h)
       ·exact .inr (by simpa using h)
       ·exfalso
        have hjo:j < ops.toList.length:=by omega
        have:=kE (by simpa using hlen) hpre (S:=fun j=>listed[j]?=some true) hcl j _ qj (List.getElem?_eq_getElem hjo) hqj (fun e he=>hcl j _ (List.getElem?_eq_getElem hjo) hjS e he) i (by simpa using h)
        rw[hif] at this;cases this
     have hloP:∀ p∈qs[i].pre,∀ x,D[p]?=some x→x.d.hi≤D[i].d.lo:=fun p hp x hx=>h5 p i x D[i] (hprei.2 p hp).1 hx hDi
     have hdist:∀ (j:Nat) (x:DW) d,D[j]?=some x→j≠i→x.d.dst=some d→D[i].d.dst≠some d:=by
      intro j x d hj hji hd
      obtain⟨hjk,qj,hqj,_,t1,_⟩:=hDq j x hj
      have:=gJ (gJ k5 (show j < qs.length by omega)) hiq
      rw[hqj,hq] at this
      simp only[Bool.or_eq_true,beq_iff_eq,bne_iff_ne] at this
      rcases this with h|h|h
      ·exact absurd h hji
      ·rw[← t1,hd] at h;cases h
      ·rw[← t1,hd] at h;rw[s1];exact fun e=>h e.symm
     have hdN:∀ d,D[i].d.dst=some d→d < N:=fun d hd=>c2 d (by rw[c1,← s1];exact hd)
     have hdisj:∀ (j:Nat) (x:DW),D[j]?=some x→j≠i→x.d.hi≤D[i].d.lo∨D[i].d.hi≤x.d.lo:=by
      intro j x hj hji
      rcases Nat.lt_or_gt_of_ne hji with h|h
      ·exact .inl (h5 j i x D[i] h hj hDi)
      ·exact .inr (h5 i j D[i] x h hDi hj)
     have hcl':∀ (j:Nat) (o:Oper),ops.toList[j]?=some o→(listed.setIfInBounds i true)[j]?=some true→∀ e∈t9 o,(listed.setIfInBounds i true)[e]?=some true:=by
      intro j oj hj hjt e he
      rw[mK (by omega)] at hjt ⊢
      rcases hjt with h|rfl
      ·exact .inl (hcl j oj hj h e he)
      ·rw[g1] at hj;cases hj;exact .inl (jX.1 (g3 e he))
     have hlk':∀ j,(listed.setIfInBounds i true)[j]?=some true→j < k:=fun j hj=>by
      rw[mK (by omega)] at hj
      rcases hj with h|rfl
      ·exact hlk j h
      ·exact hik
     have hSeq:(fun j=>(listed.setIfInBounds i true)[j]?=some true)=fun j=>listed[j]?=some true∨j=i:=by
      funext j;exact propext (mK (by omega))
     have goOn:∀ y w' ρ'',InvW C N n nl fr m D (fun j=>listed[j]?=some true∨j=i) ρ'' (a.put D[i].d.dst y) w'→wpAny C.P .any ops Q fuel (listed.setIfInBounds i true) (a.put o.dst y) w':=by
      intro y w' ρ'' I2
      rw[c1,← s1]
      exact ih _ ρ'' _ w' (by simpa using hsz) (by rw[KG hif];omega) hlk' hcl' (by rw[hSeq];exact I2)
     have hoo:ops[i]?=some o:=by rw[← Array.getElem?_toList];exact g1
     -- a store that is done, and this operation
     have hstored:∀ b,gQ D (fun j=>listed[j]?=some true) b→∃ (j:Nat) (x:DW) (B:Blk),D[j]?=some x∧listed[j]?=some true∧x.st=some (b,B)∧j≠i∧((j < i∧b∈jC (D.take i))∨(i < j∧∃ t,D[i].tc=some t∧b ∉ t)):=by
      rintro b ⟨j,x,B,e1,e2,e3⟩
      have hji:j≠i:=fun e=>by rw[e] at e2;exact hnS e2
      refine⟨j,x,B,e1,e2,e3,hji,?_⟩
      rcases Nat.lt_or_gt_of_ne hji with h|h
      ·exact .inl ⟨h,Ar.2 ⟨x,List.mem_of_getElem? (by rw[List.getElem?_take_of_lt h];exact e1),B,e3⟩⟩
      ·refine .inr ⟨h,?_⟩
       obtain⟨hjk,qj,hqj,hst,_⟩:=hDq j x e1
       rcases hst with⟨t1,_⟩|⟨b',_,_,_,_,_,_,_,_,hun,_,_,_,_,t1,_⟩
       ·rw[t1] at e3;cases e3
       ·rw[t1] at e3;cases e3
        rcases yZ hun i D[i] (by rw[List.getElem?_take_of_lt h];exact hDi) with hp|hp
        ·exfalso
         have hjo:j < ops.toList.length:=by omega
         exact hnS (kE (by simpa using hlen) hpre (S:=fun j=>listed[j]?=some true) hcl j _ qj (List.getElem?_eq_getElem hjo) hqj (fun e he=>hcl j _ (List.getElem?_eq_getElem hjo) e2 e he) i (by simpa using hp))
        ·exact hp
     unfold wpOp
     rw[hoo]
     simp only
     rcases hstep with⟨t1,t2,⟨_,_,t3⟩,_,t4⟩|⟨b,B0,B1,u2,u4,uo,uo',ux,u8,u9,u10,u11,u12,u13,u14,u15⟩
     · -- no store
      rw[hpick] at t3 t4
      have Rr:=I.rel (pre:=qs[i].pre) (hide:=qs[i].hide) s4 hpS hloP hhide
      have Xr:=I.ctx X D[i].d.lo
      have hok:(∀ b,¬ gQ D (fun j=>listed[j]?=some true) b)∨∃ t,D[i].tc=some t∧∀ b,gQ D (fun j=>listed[j]?=some true) b→b ∉ t:=by
       by_cases hex:∃ b,gQ D (fun j=>listed[j]?=some true) b
       ·right
        have key:∀ b,gQ D (fun j=>listed[j]?=some true) b→∃ t,D[i].tc=some t∧b ∉ t:=by
         intro b hb
         obtain⟨j,x,B,_,_,_,_,h|h⟩:=hstored b hb
         ·obtain⟨t,e1,e2⟩:=NO t2 (fun e=>by rw[e] at h;simp at h)
          exact⟨t,e1,e2 b h.2⟩
         ·exact h.2
        obtain⟨b,hb⟩:=hex
        obtain⟨t,e1,_⟩:=key b hb
        refine⟨t,e1,fun b' hb'=>?_⟩
        obtain⟨t',e2,e3⟩:=key b' hb'
        rw[e1] at e2;cases e2;exact e3
       ·exact .inl fun b hb=>hex ⟨b,hb⟩
      rcases t3 with⟨mm,q1,q2,q3⟩|⟨q1,q2,q3,g,b,q4,q5⟩
      ·have hwant:Region.wanted o (yielded ops a.tmps)=true:=by
        rcases q3 with q3|⟨g,b,q3,q4⟩
        ·rw[q3] at c3;exact oT (vA c3)
        ·rw[q3] at c3
         obtain⟨j',r1,r2⟩:=qQ c3
         have:=mT (a:=a) r1 r2 (t7 Rr q4)
         rw[Array.toArray_toList] at this
         rw[this];simp
       rw[if_pos hwant]
       have hex:∃ mm',dW D[i].d.lo mm'=dW D[i].d.lo mm∧dP C.T (aY C.P C.T) (iZ (bM (cV D) qs[i].pre) (aU fr qs[i].hide)) (oW (fun b=>¬ gQ D (fun j=>listed[j]?=some true) b) (eD (fH (bM (cV D) qs[i].pre) m))) D[i].d.lo
         (fun a b c=>a=D[i].d.v∧b=mm'∧c=D[i].d.hi) qs[i].op:=by
        rcases hok with hok|⟨t,e1,e2⟩
        ·exact⟨mm,rfl,by rw[Ee hok];exact q2⟩
        ·rcases t4 with t4|⟨v1,v2,v3,g,b,v4,v5⟩
         ·rw[e1] at t4
          exact MA (keep:=fun b=>¬ gQ D (fun j=>listed[j]?=some true) b) t4.symm (fun b hb hs=>e2 b hs hb) q2
         ·exfalso
          rcases q3 with q3|⟨g',b',q3,q4⟩
          ·rw[q3] at v4;cases v4
          ·rw[q3] at v4;cases v4
           rcases v5 with v5|⟨vs,v5⟩
           ·rw[q4] at v5;simp at v5
           ·rw[q4] at v5;cases v5
       obtain⟨mm',p1,p2⟩:=hex
       refine .inl (BZ Xr Rr c4 p2 ?_)
       rintro y w' ρ' v m' n' e1 ⟨rfl,rfl,rfl⟩ e3 e4 _
       obtain⟨ρ'',I2⟩:=I.step hDi t1 hnS s4 s2 s5 R.n0 hdist hdN hdisj e1 (by rw[q1,p1]) e3 e4
       exact goOn y w' ρ'' I2
      ·have hwant:Region.wanted o (yielded ops a.tmps)=false:=by
        rw[q4] at c3
        obtain⟨j',r1,r2⟩:=qQ c3
        rcases q5 with q5|⟨vs,q5⟩
        ·have:=mT (a:=a) r1 r2 (t7 Rr q5)
         rw[Array.toArray_toList] at this
         rw[this];cases b <;> rfl
        ·have:=pQ (a:=a) r1 r2 (xW Rr q5)
         rw[Array.toArray_toList] at this
         exact this
       rw[if_neg (by rw[hwant];simp)]
       obtain⟨ρ'',I2⟩:=I.skip hDi t1 hnS q1 q2 q3 s4 s5 R.n0 hdist hdN hdisj
       exact goOn undef w ρ'' I2
     · -- a store
      rw[hpick] at u4 ux
      have hns:¬ gQ D (fun j=>listed[j]?=some true) b:=by
       intro hb
       obtain⟨j,x,B,_,_,_,_,h|h⟩:=hstored b hb
       ·have:(jC (D.take i)).contains b=true:=by simpa using h.2
        rw[u8] at this;cases this
       ·obtain⟨_,t,ht,_⟩:=h
        rw[u15] at ht;cases ht
      obtain⟨Rs,Xs⟩:=I.relS X (pre:=qs[i].pre) (hide:=qs[i].hide) s4 hpS hloP hhide u4 uo hns
      rw[u2] at c3
      rw[if_pos (oT (vA c3))]
      refine .inl (BZ Xs Rs c4 (ux _) ?_)
      rintro y w' ρ' v m' n' e1 ⟨rfl,rfl,rfl⟩ e3 e4 _
      exact goOn y w' ρ (I.store hDi uo uo' u14 hnS s4 u13 u12 u11 hpS hloP u4 hns hdist hdN e4)
 refine phase1 ops.size (Array.replicate ops.size false) ρ a _ ?_ ?_ ?_ ?_ ?_
 ·simp at hlen ⊢;exact hlen
 ·have:J7 (Array.replicate ops.size false)=0:=by unfold J7;simp[List.count_replicate]
  simp at hlen;omega
 ·intro j hj
  rw[Array.getElem?_replicate] at hj
  split at hj <;> simp at hj
 ·intro j o _ hj
  rw[Array.getElem?_replicate] at hj
  split at hj <;> simp at hj
 ·have I:=InvW.start (nl:=nl) (D:=D) R1 (fun j x hj=>(hDq j x hj).2.choose_spec.2.2.2.1) h3
  have:(fun j:Nat=>(Array.replicate ops.size false)[j]?=some true)=fun _=>False:=by
   funext j
   apply propext
   constructor
   ·intro hj
    rw[Array.getElem?_replicate] at hj
    split at hj <;> simp at hj
   ·exact False.elim
  rw[this];exact I
end
def AE:Opd→List Nat
 | .t d=>[d]
 | _=>[]
def Au:List Opd→List Nat
 | []=>[]
 | x :: r=>AE x++Au r
def NR:SOp→Option (List Nat)
 | .mv x|.load _ x|.nilc x|.fld x _|.fieldV x _ _|.un _ x|.conv _ x|.strS x|.ext x _|.len _ x|.isNil _ x|.arrAt _ x=>some (AE x)
 | .bin _ x y|.eqv _ _ x y|.eqb _ x y|.mx x y|.mn x y|.idxA x y _ _|.idxV x y _ _ _|.idxS x y _|.idxT x y=>some (AE x++AE y)
 | .pick c a b=>some (AE c++AE a++AE b)
 | .lenA _=>some []
 | .mkfn _ xs ys=>some (Au xs++Au ys)
 | .callp _ xs=>some (Au xs)
 | _=>none
theorem cX {fr fr':Fr} {x:Opd} (h:∀ d∈AE x,Sx.get fr d=Sx.get fr' d):x.ev fr=x.ev fr':=by
 cases x <;> simp[Opd.ev,AE] at h ⊢
 exact h
theorem xY {fr fr':Fr}:∀ {xs:List Opd},(∀ d∈Au xs,Sx.get fr d=Sx.get fr' d)→xs.map (·.ev fr)=xs.map (·.ev fr')
 | [],_=>rfl
 | x :: r,h=>by
  simp only[Au,List.mem_append] at h
  simp only[List.map_cons]
  rw[cX (fun d hd=>h d (.inl hd)),xY (fun d hd=>h d (.inr hd))]
theorem HP:∀ {m:bL} {i:Nat},rd (eD m) i=(rd m i).map fun B=>⟨.view,B.cells⟩
 | [],i=>rfl
 | (j,B) :: r,i=>by
  simp only[eD,rd]
  split
  ·rfl
  ·exact HP
theorem oO {m:bL} {i:Nat} {B:Blk} (h:rd m i=some B):rd (eD m) i=some ⟨.view,B.cells⟩:=by rw[HP,h];rfl
theorem HQ {T:List (Nat × List SV)} {call:bG} (hcall:lV call) {fr fr':Fr} {m:bL} {n:Nat} {K K':Kt} {op:SOp} {ss:List Nat} (hp:NR op=some ss)
  (hs:∀ d∈ss,Sx.get fr d=Sx.get fr' d) (hK:∀ v,K v m n→K' v (eD m) n) (h:dP T call fr' m n K op):dP T call fr (eD m) n K' op:=by
 cases op <;> simp only[NR,Option.some.injEq,seval] at hp <;> subst hp <;> simp only[List.mem_append,dP] at hs h ⊢
 case mv x=>rw[cX hs];exact hK _ h
 case pick c a b=>
  rw[cX (x:=c) (fun d hd=>hs d (.inl (.inl hd))),cX (x:=a) (fun d hd=>hs d (.inl (.inr hd))),cX (x:=b) (fun d hd=>hs d (.inr hd))]
  unfold nZ at h ⊢
  split at h
  ·exact⟨fun e=>hK _ (h.1 e),fun e=>hK _ (h.2 e)⟩
  ·exact h.elim
 case load g x=>
  rw[cX hs]
  generalize x.ev fr'=xv at h ⊢
  split at h
  ·obtain⟨B,hB,h⟩:=h
   refine⟨_,oO hB,?_⟩
   cases g with
   | none=>obtain⟨v,hv,h⟩:=h;exact⟨v,hv,hK _ h⟩
   | some k=>exact⟨h.1,hK _ h.2⟩
  ·obtain⟨cs,hc,h⟩:=h
   refine⟨cs,hc,?_⟩
   cases g with
   | none=>obtain⟨v,hv,h⟩:=h;exact⟨v,hv,hK _ h⟩
   | some k=>exact⟨h.1,hK _ h.2⟩
  ·exact h.elim
 case nilc x=>
  rw[cX hs]
  split at h <;> first|exact hK _ h|exact h.elim
 case fld x off=>
  rw[cX hs]
  split at h <;> first|exact hK _ h|exact h.elim
 case idxA x i len s=>
  rw[cX (x:=x) (fun d hd=>hs d (.inl hd)),cX (x:=i) (fun d hd=>hs d (.inr hd))]
  unfold iF at h ⊢
  split at h
  ·refine⟨h.1,h.2.1,?_⟩
   have h:=h.2.2
   split at h <;> first|exact hK _ h|exact h.elim
  ·exact h.elim
 case idxS x i s=>
  rw[cX (x:=x) (fun d hd=>hs d (.inl hd)),cX (x:=i) (fun d hd=>hs d (.inr hd))]
  unfold iF at h ⊢
  split at h
  ·split at h
   ·obtain⟨h1,h2,h3,B,hB,h4,h5⟩:=h
    exact⟨h1,h2,h3,_,oO hB,h4,hK _ h5⟩
   ·exact h.elim
  ·exact h.elim
 case idxV x i len s g=>
  rw[cX (x:=x) (fun d hd=>hs d (.inl hd)),cX (x:=i) (fun d hd=>hs d (.inr hd))]
  unfold iF at h ⊢
  split at h
  ·refine⟨h.1,h.2.1,?_⟩
   have h:=h.2.2
   split at h
   ·cases g with
    | true=>exact hK _ h
    | false=>obtain⟨v,hv,h⟩:=h;exact⟨v,hv,hK _ h⟩
   ·exact h.elim
  ·exact h.elim
 case idxT x i=>
  rw[cX (x:=x) (fun d hd=>hs d (.inl hd)),cX (x:=i) (fun d hd=>hs d (.inr hd))]
  unfold iF at h ⊢
  split at h
  ·refine⟨h.1,?_⟩
   have h:=h.2
   split at h
   ·obtain⟨v,hv,h⟩:=h;exact⟨v,hv,hK _ h⟩
   ·exact h.elim
  ·exact h.elim
 case fieldV x off g=>
  rw[cX hs]
  split at h
  ·cases g with
   | some k=>exact hK _ h
   | none=>obtain⟨v,hv,h⟩:=h;exact⟨v,hv,hK _ h⟩
  ·exact h.elim
 case bin op x y=>
  rw[cX (x:=x) (fun d hd=>hs d (.inl hd)),cX (x:=y) (fun d hd=>hs d (.inr hd))]
  unfold Gu at h ⊢
  split at h
  ·unfold cL at h ⊢
   split at h <;> first|exact hK _ h|exact⟨h.1,hK _ h.2⟩|exact⟨h.1,h.2.1,hK _ h.2.2⟩
  ·unfold nX at h ⊢
   split at h <;> first|exact hK _ h|exact⟨h.1,hK _ h.2⟩|exact h.elim
  ·exact h.elim
 case eqv neg pat x y=>
  rw[cX (x:=x) (fun d hd=>hs d (.inl hd)),cX (x:=y) (fun d hd=>hs d (.inr hd))]
  split at h
  ·obtain⟨b,hb,h⟩:=h;exact⟨b,hb,hK _ h⟩
  ·exact h.elim
 case eqb neg x y=>
  rw[cX (x:=x) (fun d hd=>hs d (.inl hd)),cX (x:=y) (fun d hd=>hs d (.inr hd))]
  split at h <;> first|exact hK _ h|exact h.elim
 case isNil neg x=>
  rw[cX hs]
  split at h
  ·exact hK _ h
  ·exact hK _ h
  ·obtain⟨⟨B,hB,h1⟩,h2⟩:=h;exact⟨⟨_,oO hB,h1⟩,hK _ h2⟩
  ·exact h.elim
 case un op x=>
  rw[cX hs]
  split at h <;> first|exact hK _ h|exact h.elim
 case conv k x=>
  rw[cX hs]
  split at h <;> first|exact hK _ h|exact h.elim
 case strS x=>
  rw[cX hs]
  split at h <;> first|exact hK _ h|exact h.elim
 case mkfn f xs ys=>
  rw[xY (xs:=xs) (fun d hd=>hs d (.inl hd)),xY (xs:=ys) (fun d hd=>hs d (.inr hd))]
  exact hK _ h
 case callp f xs=>
  rw[xY (xs:=xs) hs]
  obtain⟨h0,h⟩:=h
  obtain⟨v,m',n',⟨h1,h2,h3,h4⟩,h5⟩:=hcall _ _ _ _ _ h
  exact⟨h0,h5 _ ⟨h1,h2,h3,hK _ h4⟩⟩
 case arrAt k x=>
  rw[cX hs]
  split at h
  ·obtain⟨h1,h2,⟨B,hB,h3⟩,h4⟩:=h;exact⟨h1,h2,⟨_,oO hB,h3⟩,hK _ h4⟩
  ·exact h.elim
 case ext x i=>
  rw[cX hs]
  split at h
  ·obtain⟨v,hv,h⟩:=h;exact⟨v,hv,hK _ h⟩
  ·exact h.elim
 case len b x=>
  rw[cX hs]
  split at h <;> first|exact hK _ h|exact h.elim
 case lenA k=>exact hK _ h
 case mx x y=>
  rw[cX (x:=x) (fun d hd=>hs d (.inl hd)),cX (x:=y) (fun d hd=>hs d (.inr hd))]
  split at h <;> first|exact hK _ h|exact h.elim
 case mn x y=>
  rw[cX (x:=x) (fun d hd=>hs d (.inl hd)),cX (x:=y) (fun d hd=>hs d (.inr hd))]
  split at h <;> first|exact hK _ h|exact h.elim
theorem vB {d e:Nat} (h:e≠d):∀ {fr:Fr},Sx.get (fF fr e) d=Sx.get fr d
 | []=>rfl
 | (c,v) :: r=>by
  unfold fF
  split
  ·rename_i hc;subst hc
   rw[vB h]
   conv=>rhs;unfold Sx.get
   rw[if_neg h]
  ·unfold Sx.get
   split
   ·rfl
   ·exact vB h
theorem HT {d:Nat}:∀ {ks:List Nat} {fr:Fr},d ∉ ks→Sx.get (aU fr ks) d=Sx.get fr d
 | [],_,_=>rfl
 | k :: ks,fr,h=>by
  simp at h
  unfold aU
  rw[HT (ks:=ks) h.2,vB (Ne.symm h.1)]
theorem B3 {d:Nat} {o:Option Nat} {v:SV} {fr:Fr} (h:o≠some d):Sx.get (bQ fr o v) d=Sx.get fr d:=by
 unfold bQ
 cases o with
 | none=>rfl
 | some e=>
  have he:e≠d:=fun e'=>h (by rw[e'])
  simp only[put,Sx.get]
  rw[if_neg he,vB he]
theorem EM {d:Nat} {v:SV} {fr:Fr}:Sx.get (bQ fr (some d) v) d=v:=by
 simp[bQ,put,Sx.get]
theorem vC {d:Nat}:∀ {L:List Dn} {fr:Fr},(∀ x∈L,x.dst≠some d)→Sx.get (iZ L fr) d=Sx.get fr d
 | [],_,_=>rfl
 | x :: r,fr,h=>by
  unfold iZ
  rw[B3 (h x List.mem_cons_self),vC (fun y hy=>h y (List.mem_cons_of_mem _ hy))]
theorem wM {d:Nat} {v:SV}:∀ {L:List Dn} {fr:Fr},(∃ x∈L,x.dst=some d)→(∀ x∈L,x.dst=some d→x.v=v)→Sx.get (iZ L fr) d=v
 | [],_,⟨x,hx,_⟩,_=>by simp at hx
 | y :: r,fr,⟨x,hx,hd⟩,h=>by
  unfold iZ
  by_cases hy:y.dst=some d
  ·rw[hy,EM];exact h y List.mem_cons_self hy
  ·rw[B3 hy]
   rcases List.mem_cons.1 hx with e|e
   ·subst e;exact (hy hd).elim
   ·exact wM ⟨x,e,hd⟩ fun z hz=>h z (List.mem_cons_of_mem _ hz)
def NS (ds:List (Option Nat)) (d:Nat):List Nat:=(List.range ds.length).filter fun j=>ds[j]?==some (some d)
def Fb (ds:List (Option Nat)) (pre hide:List Nat) (d:Nat):Bool:=
 match NS ds d with
 | []=>!hide.contains d
 | [j]=>pre.contains j
 | _=>false
theorem Cp {ds:List (Option Nat)} {d j:Nat}:j∈NS ds d↔ds[j]?=some (some d):=by
 unfold NS
 simp only[List.mem_filter,List.mem_range,beq_iff_eq]
 constructor
 ·exact fun h=>h.2
 ·intro h
  refine⟨?_,h⟩
  rcases Nat.lt_or_ge j ds.length with h'|h'
  ·exact h'
  ·rw[List.getElem?_eq_none h'] at h;cases h
theorem HU {done:List Dn} {pre hide:List Nat} {d:Nat} {fr0:Fr} (h:Fb (done.map (·.dst)) pre hide d=true) :
  Sx.get (iZ (bM done pre) (aU fr0 hide)) d=Sx.get (iZ done.reverse fr0) d:=by
 unfold Fb at h
 split at h
 ·rename_i he
  have hno:∀ (j:Nat) x,done[j]?=some x→x.dst≠some d:=by
   intro j x hj hd
   have:j∈NS (done.map (·.dst)) d:=Cp.2 (by simp[hj,hd])
   rw[he] at this;simp at this
  rw[vC (L:=bM done pre) (fun x hx=>by obtain⟨j,_,hj⟩:=gY.1 hx;exact hno j x hj),
   vC (L:=done.reverse) (fun x hx=>by obtain⟨j,hj⟩:=List.getElem?_of_mem (List.mem_reverse.1 hx);exact hno j x hj)]
  exact HT (by simpa using h)
 ·rename_i j he
  have hj:(done.map (·.dst))[j]?=some (some d):=Cp.1 (by rw[he];simp)
  simp at hj
  obtain⟨x,hx,hd⟩:=hj
  have hu:∀ (i:Nat) y,done[i]?=some y→y.dst=some d→y.v=x.v:=by
   intro i y hi hy
   have:i∈NS (done.map (·.dst)) d:=Cp.2 (by simp[hi,hy])
   rw[he] at this
   simp at this
   subst this
   rw[hx] at hi;cases hi;rfl
  rw[wM (L:=bM done pre) (v:=x.v) ⟨x,gY.2 ⟨j,by simpa using h,hx⟩,hd⟩ (fun y hy=>by obtain⟨i,_,hi⟩:=gY.1 hy;exact hu i y hi),
   wM (L:=done.reverse) (v:=x.v) ⟨x,List.mem_reverse.2 (List.mem_of_getElem? hx),hd⟩ (fun y hy=>by obtain⟨i,hi⟩:=List.getElem?_of_mem (List.mem_reverse.1 hy);exact hu i y hi)]
 ·cases h
def HV:List (Option Nat)→List Opr→Bool
 | _,[]=>true
 | ds,o :: r=>(o.kill.isEmpty || r.isEmpty) && (match NR o.op with|some ss=>ss.all (Fb ds o.pre o.hide)|none=>false) &&
  (match o.guard with|some (g,_)=>Fb ds o.pre o.hide g|none=>true) && HV (ds++[o.dst]) r
theorem wN {n:Nat}:∀ {m:bL},dW n (eD m)=[]
 | []=>rfl
 | (i,B) :: r=>by simp only[eD,dW];exact wN
theorem Cq {m:bL}:∀ {L:List Dn},(∀ x∈L,x.new=[])→fH L m=m
 | [],_=>rfl
 | x :: r,h=>by
  unfold fH
  rw[h x List.mem_cons_self,Cq (fun y hy=>h y (List.mem_cons_of_mem _ hy))];rfl
theorem Cr {T:List (Nat × List SV)} {call:bG} (hcall:lV call) {fr0:Fr} {m:bL} {n:Nat} {B:List Opr} {K:Fr→bL→Nat→Prop} :
  ∀ (r:List Opr) (done:List Dn) (ks:List Nat),HV (done.map (·.dst)) r=true→(∀ x∈done,x.new=[])→(r=[]∨ks=[]) →
   z6 T call (r++B) (aU (iZ done.reverse fr0) ks) m n K →
   EH T call fr0 m r done n fun done n'=>z6 T call B (aU (iZ done.reverse fr0) (ks++jJ r)) (fH done.reverse m) n' K
 | [],done,ks,_,hn,_,h=>by
  simp only[EH]
  rw[Cq (fun x hx=>hn x (List.mem_reverse.1 hx))]
  simpa [jJ] using h
 | o :: r,done,ks,hp,hn,hk,h=>by
  have hk0:ks=[]:=by rcases hk with h|h <;> first|exact h|cases h
  subst hk0
  simp only[HV,Bool.and_eq_true,Bool.or_eq_true] at hp
  obtain⟨⟨⟨h1,h2⟩,h3⟩,h4⟩:=hp
  split at h2
  rotate_left
  ·cases h2
  rename_i ss hss
  have hmem:fH (bM done o.pre) m=m:=Cq (fun x hx=>by obtain⟨j,_,hj⟩:=gY.1 hx;exact hn x (List.mem_of_getElem? hj))
  have hag:∀ d∈ss,Sx.get (iZ (bM done o.pre) (aU fr0 o.hide)) d=Sx.get (iZ done.reverse fr0) d:=fun d hd=>HU (List.all_eq_true.1 h2 d hd)
  have next:∀ v,z6 T call (r++B) (aU (bQ (iZ done.reverse fr0) o.dst v) o.kill) m n K →
    EH T call fr0 m r (done++[⟨o.dst,v,[],n,n⟩]) n fun done n'=>z6 T call B (aU (iZ done.reverse fr0) ([]++jJ (o :: r))) (fH done.reverse m) n' K:=by
   intro v hv
   have:=Cr hcall (B:=B) (K:=K) r (done++[⟨o.dst,v,[],n,n⟩]) o.kill (by simpa using h4) (fun x hx=>by
     rcases List.mem_append.1 hx with h|h
     ·exact hn x h
     ·simp at h;subst h;rfl) (by
     rcases h1 with h|h
     ·right;simpa using h
     ·left;simpa using h) (by simpa [iZ] using hv)
   simpa [jJ] using this
  simp only[EH,List.cons_append,z6] at h ⊢
  have y7:aU (iZ done.reverse fr0) []=iZ done.reverse fr0:=rfl
  rw[y7] at h
  cases hg:o.guard with
  | none=>
   simp only[hg] at h ⊢
   rw[hmem]
   refine HQ hcall hss hag (fun v hv=>⟨Nat.le_refl _,?_⟩) h
   rw[wN];exact next v hv
  | some gb=>
   obtain⟨g,b⟩:=gb
   simp only[hg] at h h3 ⊢
   rw[HU h3,hmem]
   generalize Sx.get (iZ done.reverse fr0) g=gv at h ⊢
   cases gv with
   | bool t=>
    refine⟨fun e=>HQ hcall hss hag (fun v hv=>⟨Nat.le_refl _,?_⟩) (h.1 e),fun e=>next _ (h.2 e)⟩
    rw[wN];exact next v hv
   | val v=>
    cases v <;> simp only at h ⊢
    exact next _ h
   | _=>exact h.elim
def eX:Fr→Nat→Option SV
 | [],_=>none
 | (e,v) :: r,d=>if e=d then some v else eX r d
theorem NT {fr:Fr} {d:Nat} {v:SV} (h:eX fr d=some v):(d,v)∈fr:=by
 induction fr with
 | nil=>simp[eX] at h
 | cons y r ih=>
  obtain⟨e,u⟩:=y
  unfold eX at h
  split at h
  ·rename_i he;subst he;cases h;exact List.mem_cons_self
  ·exact List.mem_cons_of_mem _ (ih h)
def dI (η:Nat→Nat × Nat) (fr:Fr):Fr→Prop
 | []=>True
 | (d,v) :: r=>eX fr d=some (v.ren η)∧dI η fr r
theorem Ef {η:Nat→Nat × Nat} {fr:Fr}:∀ {fr':Fr},dI η fr fr'→∀ d v,(d,v)∈fr'→eX fr d=some (v.ren η)
 | (e,u) :: r,h,d,v,hm=>by
  simp only[dI] at h
  rcases List.mem_cons.1 hm with e1|e1
  ·cases e1;exact h.1
  ·exact Ef h.2 d v e1
def b7:Nat→List (Nat × Nat)
 | 0=>[]
 | k+1=>b7 k++[(k,0)]
theorem HW:∀ {k i:Nat},i < k→(b7 k)[i]?=some (i,0)
 | k+1,i,h=>by
  have hl:∀ k,(b7 k).length=k:=fun k=>by induction k with|zero=>rfl|succ k ih=>simp[b7,ih]
  unfold b7
  by_cases hik:i < k
  ·rw[List.getElem?_append_left (by rw[hl];exact hik)];exact HW hik
  ·have:i=k:=by omega
   subst this
   rw[List.getElem?_append_right (by rw[hl];omega),hl];simp
def dS (n0:Nat) (m:bL) (n:Nat) (hs:List (Nat × Nat)) (m':bL) (n':Nat):Prop:=
 hs.length=n'∧n0≤n'∧hs.take n0=b7 n0∧aK (bB hs n) m m'∧aM (bB hs n) m'∧aG n' m'
def Qq (n0:Nat) (fr:Fr) (m:bL) (n:Nat) (fr':Fr) (m':bL) (n':Nat):Prop:=
 ∃ hs,dS n0 m n hs m' n'∧dI (bB hs n) fr fr'
section
variable {C:Ctx} {N:Nat} {ρ:dO} {m m':bL} {n n':Nat} {w:World} {a:Act} {fr fr':Fr} {hs:List (Nat × Nat)}
theorem MemOk.ent (R:MemOk C ρ m n w) (h:dS C.n0 m n hs m' n'):MemOk C (ρ.via (bB hs n)) m' n' w:=by
 obtain⟨rfl,h2,h3,hc,ha,hk⟩:=h
 have R1:=Ci R hc ha hk
 constructor
 ·exact R1.blk
 ·exact R1.apart
 ·exact R1.fresh
 ·intro i B0 L b hi ho hL hb
  obtain⟨t,Bt,Lt,q1,q2,q3,q4,q5⟩:=oS R hc ⟨i,B0,L,hi,ho,hL,hb⟩
  exact R.wrt t Bt Lt b q2 q3 q4 q5
 ·exact R.size
 ·exact R.frame
 ·intro i hi
  have:hs[i]?=some (i,0):=by
   have h4:(hs.take C.n0)[i]?=hs[i]?:=List.getElem?_take_of_lt hi
   rw[← h4,h3];exact HW hi
  unfold dO.via bB
  rw[this]
  simp only[Option.getD_some]
  rw[R.keep i hi]
  cases C.ρ0 i <;> rfl
 ·exact R.side
theorem Rel.ent (R:Rel C N ρ fr m n a w) (h:Qq C.n0 fr m n fr' m' n'):∃ ρ',Rel C N ρ' fr' m' n' a w:=by
 obtain⟨hs,hm,hf⟩:=h
 refine⟨ρ.via (bB hs n),⟨fun d v hd=>?_,R.mem.ent hm,R.defers,R.size,hm.2.1⟩⟩
 have:=Ef hf d v hd
 obtain⟨x,e1,e2⟩:=R.fr d _ (NT this)
 exact⟨x,e1,(SV.is_ren v x).1 e2⟩
end
def wO (K:Fr→bL→Nat→Prop) (Q:iY):iY:=fun e fr m n=>
 match e with
 | .normal=>K fr m n
 | e=>Q e fr m n
def NU (id:Nat) (Q:iY):iY:=fun e fr m n=>
 match e with
 | .exit j=>if j=id then Q .normal fr m n else Q (.exit j) fr m n
 | e=>Q e fr m n
def mA (n0:Nat) (body:Fr→bL→Nat→iY→Prop) (Q:iY):Nat→Fr→bL→Nat→Prop
 | 0,_,_,_=>False
 | k+1,fr,m,n=>body fr m n (wO (mA n0 body Q k) Q)∨∃ fr1 m1 n1,Qq n0 fr m n fr1 m1 n1∧body fr1 m1 n1 (wO (mA n0 body Q k) Q)
def vE (fr:Fr) (m:bL) (t:Nat) (F:Nat→Blk→Prop):Prop:=
 match get fr t with
 | .ptr b 0=>match rd m b with
  | some ⟨.own e,cells⟩=>SV.flatL cells=true∧C8 b ⟨.own e,cells⟩ m∧F b ⟨.own e,cells⟩
  | _=>False
 | _=>False
theorem HX {b:Nat} {B:Blk}:∀ {m:bL},C8 b B m→∀ B',(b,B')∈m→B'=B
 | (i,D) :: r,h,B',hm=>by
  simp only[C8] at h
  rcases List.mem_cons.1 hm with e|e
  ·cases e;exact h.1 rfl
  ·exact HX h.2 B' e
theorem MB {fr:Fr} {m:bL} {t:Nat} {F:Nat→Blk→Prop} (h:vE fr m t F):∃ b B,F b B∧(b,B)∈m∧(∀ B',(b,B')∈m→B'=B)∧B.own∧SV.flatL B.cells=true:=by
 unfold vE at h
 split at h
 ·split at h
  ·rename_i hB
   exact⟨_,_,h.2.2,fM hB,HX h.2.1,s6 rfl,h.1⟩
  ·exact h.elim
 ·exact h.elim
theorem B4 {fr:Fr} {m:bL} {t:Nat} {F G:Nat→Blk→Prop} (h:vE fr m t F) (hFG:∀ b B,F b B→G b B):vE fr m t G:=by
 unfold vE at h ⊢
 split at h
 ·split at h
  ·exact⟨h.1,h.2.1,hFG _ _ h.2.2⟩
  ·exact h.elim
 ·exact h.elim
def rP (T:List (Nat × List SV)) (call:bG) (n0:Nat):SC→Fr→bL→Nat→iY→Prop
 | .skip,fr,m,n,Q=>Q .normal fr m n
 | .reg ops,fr,m,n,Q=>z6 T call ops fr m n fun fr' m' n'=>Q .normal fr' m' n'
 | .regD k ops,fr,m,n,Q=>EH T call fr m (ops.take k) [] n fun done n'=>
  z6 T call (ops.drop k) (aU (iZ done.reverse fr) (jJ (ops.take k))) (fH done.reverse m) n' fun fr' m' n'=>Q .normal fr' m' n'
 | .regK t k ops,fr,m,n,Q=>vE fr m t fun b B=>EH T (rZ (some (b,B)) call) fr m (ops.take k) [] n fun done n'=>
  z6 T call (ops.drop k) (aU (iZ done.reverse fr) (jJ (ops.take k))) (fH done.reverse m) n' fun fr' m' n'=>Q .normal fr' m' n'
 | .regP _ ops,fr,m,n,Q=>z6 T call ops fr m n fun fr' m' n'=>Q .normal fr' m' n'
 | .regW k ops,fr,m,n,Q=>HN T call fr m (ops.take k) [] n fun done n'=>
  z6 T call (ops.drop k) (aU (iZ (cV done).reverse fr) (jJ (ops.take k))) (lZ done (fH (cV done).reverse m)) n' fun fr' m' n'=>Q .normal fr' m' n'
 | .bad,_,_,_,_=>False
 | .seq a b,fr,m,n,Q=>rP T call n0 a fr m n (wO (fun fr' m' n'=>rP T call n0 b fr' m' n' Q) Q)
 | .cond x a b,fr,m,n,Q=>nZ (x.ev fr) fun t=>(t=true→rP T call n0 a fr m n Q)∧(t=false→rP T call n0 b fr m n Q)
 | .block id c,fr,m,n,Q=>rP T call n0 c fr m n (NU id Q)
 | .loop c,fr,m,n,Q=>∃ k,mA n0 (rP T call n0 c) Q k fr m n
 | .exit id,fr,m,n,Q=>Q (.exit id) fr m n
 | .ret,fr,m,n,Q=>Q .ret fr m n
theorem nI {T:List (Nat × List SV)} {call:bG} (hc:lV call):∀ {qs:List Opr} {fr:Fr} {m:bL} {n:Nat} {K K':Fr→bL→Nat→Prop},
  z6 T call qs fr m n K→(∀ fr m n,K fr m n→K' fr m n)→z6 T call qs fr m n K'
 | [],fr,m,n,K,K',h,hK=>hK _ _ _ h
 | q :: qs,fr,m,n,K,K',h,hK=>by
  simp only[z6] at h ⊢
  cases hg:q.guard with
  | none=>
   simp only[hg] at h ⊢
   exact iM hc h fun v m n h=>nI hc h hK
  | some gb=>
   obtain⟨g,b⟩:=gb
   simp only[hg] at h ⊢
   cases hv:get fr g <;> simp only[hv] at h ⊢
   case bool t=>exact⟨fun e=>iM hc (h.1 e) fun v m n h=>nI hc h hK,fun e=>nI hc (h.2 e) hK⟩
   case val v=>
    cases v <;> simp only at h ⊢
    exact nI hc h hK
theorem oX {T:List (Nat × List SV)} {call:bG} (hc:lV call) {fr:Fr} {m:bL}:∀ {qs:List Opr} {done:List Dn} {n:Nat} {K K':List Dn→Nat→Prop},
  EH T call fr m qs done n K→(∀ d n,K d n→K' d n)→EH T call fr m qs done n K'
 | [],done,n,K,K',h,hK=>hK _ _ h
 | q :: qs,done,n,K,K',h,hK=>by
  simp only[EH] at h ⊢
  cases hg:q.guard with
  | none=>
   simp only[hg] at h ⊢
   exact iM hc h fun v m n h=>⟨h.1,oX hc h.2 hK⟩
  | some gb=>
   obtain⟨g,b⟩:=gb
   simp only[hg] at h ⊢
   cases hv:get (iZ (bM done q.pre) (aU fr q.hide)) g <;> simp only[hv] at h ⊢
   case bool t=>exact⟨fun e=>iM hc (h.1 e) fun v m n h=>⟨h.1,oX hc h.2 hK⟩,fun e=>oX hc (h.2 e) hK⟩
   case val v=>
    cases v <;> simp only at h ⊢
    exact oX hc h hK
theorem oY {T:List (Nat × List SV)} {call:bG} (hc:lV call) {fr:Fr} {m:bL}:∀ {qs:List Opr} {done:List DW} {n:Nat} {K K':List DW→Nat→Prop},
  HN T call fr m qs done n K→(∀ d n,K d n→K' d n)→HN T call fr m qs done n K'
 | [],done,n,K,K',h,hK=>hK _ _ h
 | q :: qs,done,n,K,K',h,hK=>by
  unfold HN at h ⊢
  simp only at h ⊢
  split at h
  ·refine⟨h.1,?_⟩
   have h:=h.2
   split at h
   ·obtain⟨e,cells,l,h1,h2,h3,h4,h5,h6,h7⟩:=h
    exact⟨e,cells,l,h1,h2,h3,h4,h5,h6,oY hc h7 hK⟩
   ·exact h.elim
  ·refine⟨h.1,?_⟩
   have h:=h.2
   split at h
   ·obtain⟨ks,kv,h1,h2,h3,h4,h5⟩:=h
    exact⟨ks,kv,h1,h2,h3,h4,oY hc h5 hK⟩
   ·exact h.elim
  ·refine⟨h.1,?_⟩
   have h:=h.2
   cases hg:q.guard with
   | none=>
    simp only[hg] at h ⊢
    exact iM hc h fun v m n h=>⟨h.1,oY hc h.2 hK⟩
   | some gb=>
    obtain⟨g,b⟩:=gb
    simp only[hg] at h ⊢
    split at h
    ·exact⟨fun e=>iM hc (h.1 e) fun v m n h=>⟨h.1,oY hc h.2 hK⟩,fun e=>oY hc (h.2 e) hK⟩
    ·exact oY hc h hK
    ·exact h.elim
theorem B5 {v:SV} {F G:Bool→Prop} (h:nZ v F) (hFG:∀ b,F b→G b):nZ v G:=by
 unfold nZ at h ⊢
 split at h
 ·exact hFG _ h
 ·exact h.elim
theorem Cs {n0:Nat} {body:Fr→bL→Nat→iY→Prop} (hb:∀ fr m n Q Q',body fr m n Q→(∀ e fr m n,Q e fr m n→Q' e fr m n)→body fr m n Q') {Q Q':iY}
  (hQ:∀ e fr m n,Q e fr m n→Q' e fr m n):∀ k fr m n,mA n0 body Q k fr m n→mA n0 body Q' k fr m n
 | 0,_,_,_,h=>h.elim
 | k+1,fr,m,n,h=>by
  unfold mA at h ⊢
  have key:∀ e fr' m' n',wO (mA n0 body Q k) Q e fr' m' n'→wO (mA n0 body Q' k) Q' e fr' m' n':=by
   intro e fr' m' n' h
   cases e with
   | normal=>exact Cs hb hQ k _ _ _ h
   | exit id=>exact hQ _ _ _ _ h
   | ret=>exact hQ _ _ _ _ h
  rcases h with h|⟨fr1,m1,n1,h1,h2⟩
  ·exact .inl (hb _ _ _ _ _ h key)
  ·exact .inr ⟨fr1,m1,n1,h1,hb _ _ _ _ _ h2 key⟩
theorem jN {T:List (Nat × List SV)} {call:bG} (hc:lV call) {n0:Nat}:∀ (c:SC) (fr:Fr) (m:bL) (n:Nat) (Q Q':iY),
  rP T call n0 c fr m n Q→(∀ e fr m n,Q e fr m n→Q' e fr m n)→rP T call n0 c fr m n Q'
 | .skip,_,_,_,_,_,h,hQ=>hQ _ _ _ _ h
 | .reg ops,_,_,_,_,_,h,hQ=>nI hc h fun _ _ _ h=>hQ _ _ _ _ h
 | .regD k ops,_,_,_,_,_,h,hQ=>oX hc h fun _ _ h=>nI hc h fun _ _ _ h=>hQ _ _ _ _ h
 | .regK t k ops,_,_,_,_,_,h,hQ=>B4 h fun _ _ h=>oX (sF hc) h fun _ _ h=>nI hc h fun _ _ _ h=>hQ _ _ _ _ h
 | .regP _ ops,_,_,_,_,_,h,hQ=>nI hc h fun _ _ _ h=>hQ _ _ _ _ h
 | .regW k ops,_,_,_,_,_,h,hQ=>oY hc h fun _ _ h=>nI hc h fun _ _ _ h=>hQ _ _ _ _ h
 | .bad,_,_,_,_,_,h,_=>by simp only[rP] at h
 | .seq a b,_,_,_,Q,Q',h,hQ=>by
  simp only[rP] at h ⊢
  refine jN hc a _ _ _ _ _ h fun e fr m n h=>?_
  unfold wO at h ⊢
  cases e with
  | normal=>exact jN hc b _ _ _ _ _ h hQ
  | exit id=>exact hQ _ _ _ _ h
  | ret=>exact hQ _ _ _ _ h
 | .cond x a b,_,_,_,Q,Q',h,hQ=>by
  simp only[rP] at h ⊢
  exact B5 h fun t h=>⟨fun e=>jN hc a _ _ _ _ _ (h.1 e) hQ,fun e=>jN hc b _ _ _ _ _ (h.2 e) hQ⟩
 | .block id c,_,_,_,Q,Q',h,hQ=>by
  simp only[rP] at h ⊢
  refine jN hc c _ _ _ _ _ h fun e fr m n h=>?_
  unfold NU at h ⊢
  cases e with
  | normal=>exact hQ _ _ _ _ h
  | exit j=>
   simp only at h ⊢
   split at h
   ·rename_i e;rw[if_pos e];exact hQ _ _ _ _ h
   ·rename_i e;rw[if_neg e];exact hQ _ _ _ _ h
  | ret=>exact hQ _ _ _ _ h
 | .loop c,_,_,_,Q,Q',h,hQ=>by
  simp only[rP] at h ⊢
  obtain⟨k,h⟩:=h
  exact⟨k,Cs (fun fr m n Q Q' h hQ=>jN hc c fr m n Q Q' h hQ) hQ k _ _ _ h⟩
 | .exit id,_,_,_,_,_,h,hQ=>hQ _ _ _ _ h
 | .ret,_,_,_,_,_,h,hQ=>hQ _ _ _ _ h
theorem NW {σ:Type} {n0:Nat} {body:Fr→bL→Nat→iY→Prop} (hb:∀ fr m n Q Q',body fr m n Q→(∀ e fr m n,Q e fr m n→Q' e fr m n)→body fr m n Q') {Q:iY}
  (F:σ→Fr) (M:σ→bL) (B:σ→Nat) (Inv:σ→Prop) (μ:σ→Nat)
  (round:∀ s,Inv s→body (F s) (M s) (B s) (wO (fun fr' m' n'=>∃ s',Qq n0 fr' m' n' (F s') (M s') (B s')∧Inv s'∧μ s' < μ s) Q))
  (s:σ) {fr:Fr} {m:bL} {n:Nat} (hE:Qq n0 fr m n (F s) (M s) (B s)) (hI:Inv s):∃ k,mA n0 body Q k fr m n:=by
 have key:∀ k s fr m n,μ s < k→Qq n0 fr m n (F s) (M s) (B s)→Inv s→mA n0 body Q k fr m n:=by
  intro k
  induction k with
  | zero=>intro s _ _ _ h;omega
  | succ k ih=>
   intro s fr m n hk hE hI
   unfold mA
   refine .inr ⟨_,_,_,hE,hb _ _ _ _ _ (round s hI) fun e fr' m' n' h=>?_⟩
   cases e with
   | normal=>
    obtain⟨s',h1,h2,h3⟩:=h
    exact ih s' _ _ _ (by omega) h1 h2
   | exit id=>exact h
   | ret=>exact h
 exact⟨μ s+1,key _ s fr m n (by omega) hE hI⟩
theorem MC {P:Program} {T:List (Nat × List SV)} {σ:Type} {n0:Nat} {c:SC} {Q:iY}
  (F:σ→Fr) (M:σ→bL) (B:σ→Nat) (Inv:σ→Prop) (μ:σ→Nat)
  (s:σ) {fr:Fr} {m:bL} {n:Nat} (hE:Qq n0 fr m n (F s) (M s) (B s)) (hI:Inv s)
  (round:∀ s,Inv s→rP T (aY P T) n0 c (F s) (M s) (B s) (wO (fun fr' m' n'=>∃ s',Qq n0 fr' m' n' (F s') (M s') (B s')∧Inv s'∧μ s' < μ s) Q)) :
  ∃ k,mA n0 (rP T (aY P T) n0 c) Q k fr m n:=
 NW (fun fr m n Q Q' h hQ=>jN (aN P T) c fr m n Q Q' h hQ) F M B Inv μ round s hE hI
def rR (P:Program) (N:Nat):Code→SC→Bool
 | .skip,s=>match s with|.skip=>true|.bad=>true|_=>false
 | .label _,s=>match s with|.skip=>true|.bad=>true|_=>false
 | .region _ ops d,s=>match s with
  | .reg qs=>!d && pI P N ops.toList ops.toList qs
  | .regD k qs=>d && HM P N ops.toList qs k
  | .regK _ k qs=>d && HM P N ops.toList qs k
  | .regP k qs=>d && HM P N ops.toList qs k && HV [] (qs.take k)
  | .regW k qs=>d && HM P N ops.toList qs k
  | .bad=>true
  | _=>false
 | .seq a b,s=>match s with|.seq a' b'=>rR P N a a' && rR P N b b'|.bad=>true|_=>false
 | .cond c a b,s=>match s with|.cond x a' b'=>aZ c x && rR P N a a' && rR P N b b'|.bad=>true|_=>false
 | .block i c,s=>match s with|.block j c'=>i==j && rR P N c c'|.bad=>true|_=>false
 | .loop c,s=>match s with|.loop c'=>rR P N c c'|.bad=>true|_=>false
 | .scope c,s=>rR P N c s
 | .exit i,s=>match s with|.exit j=>i==j|.bad=>true|_=>false
 | .ret,s=>match s with|.ret=>true|.bad=>true|_=>false
 | _,s=>match s with|.bad=>true|_=>false
section
variable {C:Ctx} {N:Nat}
def Vm (C:Ctx) (N:Nat) (Φ:iY):Exit→Act→World→Prop
 | .normal,a,w=>∃ ρ fr m n,Φ .normal fr m n∧Rel C N ρ fr m n a w
 | .exit id,a,w=>∃ ρ fr m n,Φ (.exit id) fr m n∧Rel C N ρ fr m n a w
 | .ret,a,w=>∃ ρ fr m n,Φ .ret fr m n∧Rel C N ρ fr m n a w
 | _,_,_=>False
theorem KJ {c:Code} {body:Fr→bL→Nat→iY→Prop} {Φ:iY}
  (hb:∀ fr m n ρ a w Ψ,body fr m n Ψ→Rel C N ρ fr m n a w→c.wp C.P (Vm C N Ψ) a w) :
  ∀ k fr m n ρ a w,mA C.n0 body Φ k fr m n→Rel C N ρ fr m n a w→Code.rounds C.P c (Vm C N Φ) k a w
 | 0,_,_,_,_,_,_,h,_=>h.elim
 | k+1,fr,m,n,ρ,a,w,h,R=>by
  unfold mA at h
  rw[rounds_succ]
  have key:∀ e a w,Vm C N (wO (mA C.n0 body Φ k) Φ) e a w→Exit.then (Code.rounds C.P c (Vm C N Φ) k) (Vm C N Φ) e a w:=by
   intro e a w hq
   cases e with
   | normal=>
    obtain⟨ρ',fr',m',n',h1,h2⟩:=hq
    exact KJ hb k fr' m' n' ρ' a w h1 h2
   | exit id=>exact hq
   | ret=>exact hq
   | goto l=>exact hq
   | panic ch=>exact hq
   | outgrown=>exact hq
  rcases h with h|⟨fr1,m1,n1,h1,h2⟩
  ·exact wp_mono (hb _ _ _ _ _ _ _ h R) key
  ·obtain⟨ρ',R'⟩:=R.ent h1
   exact wp_mono (hb _ _ _ _ _ _ _ h2 R') key
theorem sG (X:CtxOk C):∀ (c:Code) (s:SC) (fr:Fr) (m:bL) (n:Nat) (ρ:dO) (a:Act) (w:World) (Φ:iY),
  rR C.P N c s=true→rP C.T (aY C.P C.T) C.n0 s fr m n Φ→Rel C N ρ fr m n a w→c.wp C.P (Vm C N Φ) a w
 | .skip,s,fr,m,n,ρ,a,w,Φ,hc,h,R=>by
  cases s <;> simp only[rR] at hc <;> first|(simp only[rP] at h;done)|cases hc|skip
  exact wp_skip ⟨ρ,fr,m,n,h,R⟩
 | .label l,s,fr,m,n,ρ,a,w,Φ,hc,h,R=>by
  cases s <;> simp only[rR] at hc <;> first|(simp only[rP] at h;done)|cases hc|skip
  exact wp_label ⟨ρ,fr,m,n,h,R⟩
 | .region id ops d,s,fr,m,n,ρ,a,w,Φ,hc,h,R=>by
  cases s <;> simp only[rR] at hc <;> first|(simp only[rP] at h;done)|cases hc|skip
  case reg qs=>
   simp only[Bool.and_eq_true,Bool.not_eq_true'] at hc
   obtain⟨rfl,hc⟩:=hc
   refine wp_region_list (NM X ops.toList qs fr m n ρ a w _ hc h R ?_ |> fun h=>by rwa [Array.toArray_toList] at h)
   intro ρ' fr' m' n' a' w' h1 h2
   exact⟨ρ',fr',m',n',h1,h2⟩
  case regD k qs=>
   simp only[Bool.and_eq_true] at hc
   obtain⟨rfl,hc⟩:=hc
   exact Fa X hc (κ:=none) (by simp) h R fun ρ' fr' m' n' a' w' h1 h2=>⟨ρ',fr',m',n',h1,h2⟩
  case regK t k qs=>
   simp only[Bool.and_eq_true] at hc
   obtain⟨rfl,hc⟩:=hc
   simp only[rP] at h
   obtain⟨b,B,h,g⟩:=MB h
   exact Fa X hc (κ:=some (b,B)) (by rintro _ _ ⟨⟩;exact g) h R fun ρ' fr' m' n' a' w' h1 h2=>⟨ρ',fr',m',n',h1,h2⟩
  case regW k qs=>
   simp only[Bool.and_eq_true] at hc
   obtain⟨rfl,hc⟩:=hc
   exact NQ X hc h R fun ρ' fr' m' n' a' w' h1 h2=>⟨ρ',fr',m',n',h1,h2⟩
  case regP k qs=>
   simp only[Bool.and_eq_true] at hc
   obtain⟨⟨rfl,hc⟩,hp⟩:=hc
   simp only[rP] at h
   have h':=Cr (aN C.P C.T) (B:=qs.drop k) (qs.take k) [] [] (by simpa using hp) (by simp) (.inr rfl) (by rw[List.take_append_drop];exact h)
   exact Fa X hc (κ:=none) (by simp) (show EH C.T (aY C.P C.T) _ _ _ _ _ _ by simpa using h') R fun ρ' fr' m' n' a' w' h1 h2=>⟨ρ',fr',m',n',h1,h2⟩
 | .seq c d,s,fr,m,n,ρ,a,w,Φ,hc,h,R=>by
  cases s <;> simp only[rR] at hc <;> first|(simp only[rP] at h;done)|cases hc|skip
  simp only[Bool.and_eq_true] at hc
  simp only[rP] at h
  refine wp_seq (wp_mono (sG X c _ fr m n ρ a w _ hc.1 h R) fun e a w hq=>?_)
  cases e with
  | normal=>
   obtain⟨ρ',fr',m',n',h1,h2⟩:=hq
   exact sG X d _ fr' m' n' ρ' a w Φ hc.2 h1 h2
  | exit id=>exact hq
  | ret=>exact hq
  | goto l=>exact hq
  | panic ch=>exact hq
  | outgrown=>exact hq
 | .cond o c d,s,fr,m,n,ρ,a,w,Φ,hc,h,R=>by
  cases s <;> simp only[rR] at hc <;> first|(simp only[rP] at h;done)|cases hc|skip
  simp only[Bool.and_eq_true] at hc
  simp only[rP] at h
  obtain⟨b,hb,h1,h2⟩:=EZ h (cU R hc.1.1)
  refine wp_cond (t:=b) hb ?_
  cases b
  ·exact sG X d _ fr m n ρ a w Φ hc.2 (h2 rfl) R
  ·exact sG X c _ fr m n ρ a w Φ hc.1.2 (h1 rfl) R
 | .block i c,s,fr,m,n,ρ,a,w,Φ,hc,h,R=>by
  cases s <;> simp only[rR] at hc <;> first|(simp only[rP] at h;done)|cases hc|skip
  simp only[Bool.and_eq_true,beq_iff_eq] at hc
  obtain⟨rfl,hc⟩:=hc
  simp only[rP] at h
  refine wp_block (wp_mono (sG X c _ fr m n ρ a w _ hc h R) fun e a w hq=>?_)
  cases e with
  | normal=>exact hq
  | exit id=>
   obtain⟨ρ',fr',m',n',h1,h2⟩:=hq
   simp only[NU] at h1
   simp only[Exit.inBlock]
   split
   ·rename_i e;rw[if_pos e] at h1;exact⟨ρ',fr',m',n',h1,h2⟩
   ·rename_i e;rw[if_neg e] at h1;exact⟨ρ',fr',m',n',h1,h2⟩
  | ret=>exact hq
  | goto l=>exact hq
  | panic ch=>exact hq
  | outgrown=>exact hq
 | .loop c,s,fr,m,n,ρ,a,w,Φ,hc,h,R=>by
  cases s <;> simp only[rR] at hc <;> first|(simp only[rP] at h;done)|cases hc|skip
  rename_i c'
  simp only[rP] at h
  obtain⟨k,h⟩:=h
  exact wp_loop_rounds k (KJ (fun fr m n ρ a w Ψ h R=>sG X c c' fr m n ρ a w Ψ hc h R) k fr m n ρ a w h R)
 | .scope c,s,fr,m,n,ρ,a,w,Φ,hc,h,R=>by
  simp only[rR] at hc
  refine wp_scope_straight (wp_mono (sG X c s fr m n ρ a w Φ hc h R) fun e a w hq=>?_)
  cases e <;> first|exact hq
 | .exit i,s,fr,m,n,ρ,a,w,Φ,hc,h,R=>by
  cases s <;> simp only[rR] at hc <;> first|(simp only[rP] at h;done)|cases hc|skip
  simp only[beq_iff_eq] at hc;subst hc
  exact wp_exit ⟨ρ,fr,m,n,h,R⟩
 | .ret,s,fr,m,n,ρ,a,w,Φ,hc,h,R=>by
  cases s <;> simp only[rR] at hc <;> first|(simp only[rP] at h;done)|cases hc|skip
  exact wp_ret ⟨ρ,fr,m,n,h,R⟩
 | .goto _,s,_,_,_,_,_,_,_,hc,h,_=>by cases s <;> simp only[rR] at hc <;> first|(simp only[rP] at h;done)|cases hc
 | .rangeFunc _ _ _ _,s,_,_,_,_,_,_,_,hc,h,_=>by cases s <;> simp only[rR] at hc <;> first|(simp only[rP] at h;done)|cases hc
 | .refuse _,s,_,_,_,_,_,_,_,hc,h,_=>by cases s <;> simp only[rR] at hc <;> first|(simp only[rP] at h;done)|cases hc
end
inductive RV where
 | t (d:Nat)
 | c (d:Nat) (g:Option Nat)
def sH (T:List (Nat × List SV)) (fr:Fr):List RV→bL→Nat→(List SV→bL→Nat→Prop)→Prop
 | [],m,n,K=>K [] m n
 | .t d :: r,m,n,K=>sH T fr r m n fun l m n=>K (get fr d :: l) m n
 | .c d g :: r,m,n,K=>dP T (fun _ _ _ _ _=>False) fr m n (fun v m n=>sH T fr r m n fun l m n=>K (v :: l) m n) (.load g (.t d))
def dX:List SV→SV
 | [v]=>v
 | l=>.tup l
structure SF where
 n:Nat
 res:List RV
 body:SC
def AF (P:Program):List ResultVar→List RV→Bool
 | [],[]=>true
 | .tmp t :: r,.t d :: q=>t==d && AF P r q
 | .cell a t :: r,.c d g :: q=>a==d && gX P t==some g && AF P r q
 | _,_=>false
def cY (P:Program) (f:FuncId) (sf:SF):Bool:=
 JR P f && match P.funcs[f]? with
 | some fn=>fn.ntmps==sf.n && AF P fn.results.toList sf.res && match fn.body with
  | some c=>rR P sf.n c sf.body
  | none=>false
 | none=>false
def gV:Nat→List SV→Fr
 | _,[]=>[]
 | i,v :: r=>(i,v) :: gV (i+1) r
theorem HY:∀ {l:List SV} {i d:Nat} {v:SV},(d,v)∈gV i l→i≤d∧l[d - i]?=some v
 | a :: l,i,d,v,h=>by
  unfold gV at h
  rcases List.mem_cons.1 h with h|h
  ·cases h;simp
  ·obtain⟨h1,h2⟩:=HY h
   refine⟨by omega,?_⟩
   rw[show d - i=(d - (i+1))+1 by omega];simpa using h2
section
variable {C:Ctx} {N:Nat} {ρ:dO} {fr:Fr} {m:bL} {n:Nat} {a:Act} {w:World}
theorem UG (R:Rel C N ρ fr m n a w) (d:Nat):(get fr d).is ρ (a.tmps.getD d undef):=by
 have:=cU (x:=.t d) (o:=.tmp d) R (by simp[aZ])
 simpa [Opd.ev,Act.eval] using this
def xZ (tmps:Array Value):ResultVar→Sem Value
 | .tmp t=>pure (tmps.getD t undef)
 | .cell a t=>do loadVar t (← asAddr (tmps.getD a undef))
theorem Fc {a:Act} {w:World}:∀ (l:List ResultVar) (q:List RV) (ρ:dO) (m:bL) (n:Nat) (K:List SV→bL→Nat→Prop),CtxOk C→Rel C N ρ fr m n a w →
  AF C.P l q=true→sH C.T fr q m n K →
  ∃ ρ' vs xs m' n',K vs m' n'∧ρ.le ρ'∧SV.isL ρ' vs xs∧(l.mapM (xZ a.tmps)).run C.P w=.ok xs w∧MemOk C ρ' m' n' w
 | [],q,ρ,m,n,K,X,R,h,hk=>by
  cases q <;> simp only[AF] at h <;> first|cases h|skip
  exact⟨ρ,[],[],m,n,hk,dO.le_refl _,by simp[SV.isL],by simp,R.mem⟩
 | .tmp t :: l,q,ρ,m,n,K,X,R,h,hk=>by
  cases q with
  | nil=>simp[AF] at h
  | cons q0 q=>
  cases q0 <;> simp[AF] at h
  obtain⟨rfl,h⟩:=h
  simp only[sH] at hk
  obtain⟨ρ',vs,xs,m',n',h1,h2,h3,h4,h5⟩:=Fc l q ρ m n _ X R h hk
  refine⟨ρ',_,a.tmps.getD t undef :: xs,m',n',h1,h2,?_,?_,h5⟩
  ·simp only[SV.isL];exact⟨_,_,rfl,SV.is_mono h2 _ _ (UG R t),h3⟩
  ·simp only[List.mapM_cons,Sem.run_bind,Sem.run_pure,Result.andThen_ok,xZ]
   rw[h4];rfl
 | .cell b t :: l,q,ρ,m,n,K,X,R,h,hk=>by
  cases q with
  | nil=>simp[AF] at h
  | cons q0 q=>
  cases q0 <;> simp[AF] at h
  obtain⟨⟨rfl,hg⟩,h⟩:=h
  simp only[sH] at hk
  obtain⟨y,g1,ρ1,v,m1,n1,hle,hk',hv,hm,hn⟩:=KD X R (o:=.tmp b) (x:=.t b) (by simp[aZ]) hg rfl hk
  have R1:Rel C N ρ1 fr m1 n1 a w:=⟨fun d v h=>let ⟨x,e1,e2⟩:=R.fr d v h;⟨x,e1,SV.is_mono hle v x e2⟩,hm,R.defers,R.size,hn⟩
  obtain⟨ρ',vs,xs,m',n',h1,h2,h3,h4,h5⟩:=Fc l q ρ1 m1 n1 _ X R1 h hk'
  refine⟨ρ',v :: vs,y :: xs,m',n',h1,dO.le_trans hle h2,?_,?_,h5⟩
  ·simp only[SV.isL];exact⟨_,_,rfl,SV.is_mono h2 _ _ hv,h3⟩
  ·have:(xZ a.tmps (.cell b t)).run C.P w=.ok y w:=by
    have e1:a.eval (.tmp b)=a.tmps.getD b undef:=rfl
    rw[e1] at g1
    show (do loadVar t (← asAddr (a.tmps.getD b undef)):Sem Value).run C.P w=_
    generalize a.tmps.getD b undef=z at g1 ⊢
    cases z
    case pointer A=>cases A with
     | none=>simp[Instr.loadAt,Instr.sureAddr] at g1
     | some A=>simpa [Instr.loadAt,Instr.sureAddr,asAddr] using g1
    all_goals simp[Instr.loadAt,Instr.sureAddr] at g1
   simp only[List.mapM_cons,Sem.run_bind,this,Result.andThen_ok]
   rw[h4];rfl
def NX:List Value→Value
 | [x]=>x
 | l=>.tuple l.toArray
theorem HZ {fn:Func} {tmps:Array Value} {w:World} {xs:List Value} (h:(fn.results.toList.mapM (xZ tmps)).run C.P w=.ok xs w) :
  (results fn tmps).run C.P w=.ok (NX xs) w:=by
 have e:results fn tmps=(do
   let vs ← fn.results.mapM (xZ tmps)
   pure (if h:vs.size=1 then vs[0] else .tuple vs)):=rfl
 have hm:(fn.results.mapM (xZ tmps)).run C.P w=.ok xs.toArray w:=by
  rw[Array.mapM_eq_mapM_toList,Sem.run_map]
  rw[h];rfl
 rw[e]
 simp only[Sem.run_bind,hm,Result.andThen_ok,Sem.run_pure]
 congr 1
 match xs with
 | []=>rfl
 | [x]=>rfl
 | x :: y :: r=>simp[NX]
theorem NY {ρ:dO} {vs:List SV} {xs:List Value} (h:SV.isL ρ vs xs):(dX vs).is ρ (NX xs):=by
 have hl:=SV.isL_length h
 match vs,xs with
 | [],[]=>simp only[dX,SV.is];exact⟨_,h,rfl⟩
 | [v],[x]=>
  simp only[SV.isL] at h
  obtain⟨y,ys,e,h1,h2⟩:=h
  cases e;exact h1
 | v :: v' :: r,x :: x' :: r'=>simp only[dX,SV.is];exact⟨_,h,rfl⟩
 | [],x :: r=>simp at hl
 | [v],[]=>simp at hl
 | [v],x :: x' :: r=>simp at hl
 | v :: v' :: r,[]=>simp at hl
 | v :: v' :: r,[x]=>simp at hl
end
def RZ (T:List (Nat × List SV)) (n0:Nat) (res:List RV) (r:SV) (m':bL) (n':Nat):iY:=fun e fr m n=>
 match e with
 | .exit _=>False
 | _=>sH T fr res m n fun l m1 n1=>∃ hs,dS n0 m1 n1 hs m' n'∧dX l=r.ren (bB hs n1)
theorem wP {P:Program} {T:List (Nat × List SV)} {f:FuncId} {sf:SF} {args:List SV} {m0:bL} {n0:Nat} {r:SV} {m':bL} {n':Nat}
  (hc:cY P f sf=true) (hlen:args.length≤sf.n) (hn:n0≤n')
  (h:rP T (aY P T) n0 sf.body (gV 0 args) m0 n0 (RZ T n0 sf.res r m' n')):Fun P T f args m0 n0 r m' n':=by
 simp only[cY,Bool.and_eq_true] at hc
 obtain⟨hok,hc⟩:=hc
 refine⟨hok,hn,?_⟩
 intro ρ w vals R X hv
 split at hc
 rotate_left
 ·cases hc
 rename_i fn hfn
 simp only[Bool.and_eq_true,beq_iff_eq] at hc
 obtain⟨⟨hN,hres⟩,hc⟩:=hc
 split at hc
 rotate_left
 ·cases hc
 rename_i c hbody
 have hl:=SV.isL_length hv
 have R0:Rel (pM P T ρ m0 n0 w) sf.n ρ (gV 0 args) m0 n0 { tmps:=vals.toArray++Array.replicate (fn.ntmps - vals.toArray.size) undef,defers:=[] } w:=by
  constructor
  ·intro d v hd
   obtain⟨_,h2⟩:=HY hd
   obtain⟨x,h3,h4⟩:=SV.isL_get hv d v (by simpa using h2)
   refine⟨x,?_,h4⟩
   have hlt:d < vals.length:=by
    rcases Nat.lt_or_ge d vals.length with q|q
    ·exact q
    ·rw[List.getElem?_eq_none q] at h3;cases h3
   rw[Array.getElem?_append_left (by simpa using hlt)]
   simpa using h3
  ·exact R
  ·rfl
  ·simp;omega
  ·exact Nat.le_refl _
 have key:=sG (C:=pM P T ρ m0 n0 w) X c sf.body _ _ _ ρ _ w _ hc h R0
 refine calls_of_wp hfn hbody (wp_mono key ?_)
 have done:∀ ρ1 fr m1 n1 a1 w1,sH T fr sf.res m1 n1 (fun l m1 n1=>∃ hs,dS n0 m1 n1 hs m' n'∧dX l=r.ren (bB hs n1))→Rel (pM P T ρ m0 n0 w) sf.n ρ1 fr m1 n1 a1 w1 →
   a1.defers=[]∧∃ v,(results fn a1.tmps).run P w1=.ok v w1∧∃ x ρ',Ending.returned v=.returned x∧ρ.le ρ'∧r.is ρ' x∧MemOk (pM P T ρ m0 n0 w) ρ' m' n' w1:=by
  intro ρ1 fr m1 n1 a1 w1 h1 R1
  obtain⟨ρ2,vs,xs,m2,n2,⟨hs,hE,hr⟩,g2,g3,g4,g5⟩:=Fc _ _ _ _ _ _ X R1 hres h1
  refine⟨R1.defers,_,HZ (C:=pM P T ρ m0 n0 w) g4,_,_,rfl,?_,?_,g5.ent hE⟩
  ·intro i L hL
   have hi:i < n0:=by
    rcases Nat.lt_or_ge i n0 with q|q
    ·exact q
    ·rw[R.fresh i q] at hL;cases hL
   have:=(g5.ent hE).keep i hi
   rw[this];exact hL
  ·exact (SV.is_ren _ _).1 (by rw[← hr];exact NY g3)
 intro e a1 w1 hq
 cases e with
 | normal=>
  obtain⟨ρ1,fr,m1,n1,h1,R1⟩:=hq
  exact done ρ1 fr m1 n1 a1 w1 h1 R1
 | ret=>
  obtain⟨ρ1,fr,m1,n1,h1,R1⟩:=hq
  exact done ρ1 fr m1 n1 a1 w1 h1 R1
 | exit id=>
  obtain⟨ρ1,fr,m1,n1,h1,R1⟩:=hq
  exact h1.elim
 | goto l=>exact hq.elim
 | panic ch=>exact hq.elim
 | outgrown=>exact hq.elim
end Go.Sx
