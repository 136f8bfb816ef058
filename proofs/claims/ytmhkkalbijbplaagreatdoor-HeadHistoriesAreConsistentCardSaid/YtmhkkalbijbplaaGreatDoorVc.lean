/- The proof, part Vc: EngCo. -/
import Derived.Test.YtmhkkalbijbplaaGreatDoorVb
set_option linter.unusedSimpArgs false
set_option linter.unusedVariables false
set_option maxRecDepth 100000
set_option maxHeartbeats 16000000
namespace Go.Sx
open Go
def MD (x:Nat):List Nat→Bool
 | []=>false
 | y :: r=>match Nat.beq x y with
  | true=>true
  | false=>MD x r
def Ct (a:List Nat):List Nat→List Nat
 | []=>a
 | x :: r=>match MD x a with
  | true=>Ct a r
  | false=>Ct (x :: a) r
def iE (b:List Nat):List Nat→List Nat
 | []=>[]
 | x :: r=>match MD x b with
  | true=>iE b r
  | false=>x :: iE b r
def WH (x:Nat):List Nat→List Nat
 | []=>[x]
 | y :: r=>match Nat.ble x y with
  | true=>x :: y :: r
  | false=>y :: WH x r
def ME:List Nat→List Nat
 | []=>[]
 | x :: r=>WH x (ME r)
def coV:Value→SV
 | .int k n=>.int k n
 | .bool b=>.bool b
 | .string t=>.str t.data.toList
 | v=>.val v
def kD:Operand→Opd
 | .tmp t=>.t t
 | .const v=>.c (coV v)
 | .global g=>.g g
 | .func f=>.f f
def UH:List Operand→List Opd
 | []=>[]
 | x :: r=>kD x :: UH r
def coZ:List Value→List SV
 | []=>[]
 | x :: r=>coV x :: coZ r
def Eg:Option Operand→Option Opd
 | none=>none
 | some o=>some (kD o)
def Cu (P:Program) (t:TypeId):List SV:=match P.info? t with
 | some i=>match i.zero with
  | some v=>coZ v.cells.toList
  | none=>[]
 | none=>[]
def jF (P:Program) (t:TypeId):TypeId:=match P.underlying t with
 | some (.slice e)=>e
 | some (.array _ e)=>e
 | some (.pointer u)=>match P.underlying u with
  | some (.array _ e)=>e
  | _=>u
 | _=>0
def yO (P:Program) (t:TypeId):Nat:=(iG P t).getD 0
def Fd (P:Program) (t:TypeId):Nat:=((P.info? t).map (·.bytes)).getD 0
def KK (P:Program) (t:TypeId):Option Nat:=(gX P t).getD none
def Fe (place:Nat→Option (Nat × Nat)):List (Nat × Operand)→List (Nat × Nat × Opd)
 | []=>[]
 | (i,o) :: r=>match place i with
  | some (a,b)=>(a,b,kD o) :: Fe place r
  | none=>[]
mutual
def Ff (P:Program):Nat→TypeId→Bool
 | 0,_=>false
 | d+1,t=>match P.underlying t with
  | some .bool=>true
  | some (.int _)=>true
  | some .string=>true
  | some (.struct fs)=>H0 P d (fs.toList.map (·.type))
  | some (.array _ e)=>Ff P d e
  | _=>false
def H0 (P:Program):Nat→List TypeId→Bool
 | 0,l=>l.isEmpty
 | d+1,l=>match l with
  | []=>true
  | t :: r=>match Ff P d t with
   | true=>H0 P d r
   | false=>false
end
def WI (P:Program):List TypeId→Bool
 | []=>true
 | t :: r=>match Ff P 20 t with
  | true=>WI P r
  | false=>false
def UI (P:Program) (c:Call):SOp:=
 match c.callee with
 | .value (.func f)=>match P.funcs[f]? with
  | some fn=>match F5 P f,c.args.toList with
   | true,[x]=>.noesc f (kD x)
   | _,l=>match WI P (fn.params.toList++fn.resultTypes.toList) with
    | true=>.callp f (UH l)
    | false=>.call f (UH l)
  | none=>.call f (UH c.args.toList)
 | .value o=>.callv (kD o) (UH c.args.toList)
 | .builtin .len=>match c.argTypes.toList,c.args.toList with
  | [t],[x]=>match P.underlying t with
   | some .string=>.len true (kD x)
   | some (.slice _)=>.len false (kD x)
   | some (.map _ _)=>.mlen (kD x)
   | _=>.lenA (((Cf P t).map (·.1)).getD 0)
  | _,_=>.lenA 0
 | .builtin .append=>match c.argTypes.toList,c.args.toList with
  | [t,u],[x,y]=>match P.underlying u with
   | some (.int _)=>.appZ (jF P t) (yO P (jF P t)) (Fd P (jF P t)) (Cu P (jF P t)) (kD x) (kD y)
   | _=>.app (jF P t) (yO P (jF P t)) (Fd P (jF P t)) (kD x) (kD y)
  | _,_=>.lenA 0
 | .builtin .cap=>match c.args.toList with
  | [x]=>.capN (kD x)
  | _=>.lenA 0
 | .builtin .copy=>match c.argTypes.toList,c.args.toList with
  | [t,_],[x,y]=>.copy (yO P (jF P t)) (kD x) (kD y)
  | _,_=>.lenA 0
 | .builtin .unsafeSliceData=>match c.argTypes.toList,c.args.toList with
  | [t],[x]=>.sdat (yO P (jF P t)) (kD x)
  | _,_=>.lenA 0
 | .builtin .unsafeString=>match c.argTypes.toList,c.args.toList with
  | t :: _,[x,y]=>.ustr (jF P t) (kD x) (kD y)
  | _,_=>.lenA 0
 | .builtin .max=>match c.args.toList with
  | [x,y]=>.mx (kD x) (kD y)
  | _=>.lenA 0
 | .builtin .min=>match c.args.toList with
  | [x,y]=>.mn (kD x) (kD y)
  | _=>.lenA 0
 | _=>.lenA 0
def KL:BinOp→Bool
 | .neq=>true
 | _=>false
def WJ (P:Program):Op→SOp
 | .move y=>.mv (kD y)
 | .assign y=>.mv (kD y)
 | .pick c a b=>.pick (kD c) (kD a) (kD b)
 | .alloc t=>.new t (Cu P t)
 | .box t y=>.box t (kD y)
 | .build t ps=>.build (Cu P t) (Fe ((CB P t).getD fun _=>none) ps.toList)
 | .buildSlice t k ps=>.bslice (jF P t) (yO P (jF P t)) k ((List.replicate k (Cu P (jF P t))).flatten) (Fe (fun i=>some (i * yO P (jF P t),yO P (jF P t))) ps.toList)
 | .load t y=>.load (KK P t) (kD y)
 | .store t y v=>.store (yO P t) (kD y) (kD v)
 | .nilCheck y=>.nilc (kD y)
 | .fieldAddr t y f=>match P.underlying t with
  | some (.struct fs)=>.fld (kD y) (((fs[f]?).map (·.offset)).getD 0)
  | _=>.lenA 0
 | .field t y f=>match P.underlying t with
  | some (.struct fs)=>match fs[f]? with
   | some fd=>.fieldV (kD y) fd.offset (KK P fd.type)
   | none=>.lenA 0
  | _=>.lenA 0
 | .indexAddr t y j=>match P.underlying t with
  | some (.array n e)=>.idxA (kD y) (kD j) n (yO P e)
  | some (.slice e)=>.idxS (kD y) (kD j) (yO P e)
  | _=>.lenA 0
 | .index t y j=>match P.underlying t with
  | some (.array n e)=>.idxV (kD y) (kD j) n (yO P e) (KK P e).isSome
  | some .string=>.idxT (kD y) (kD j)
  | _=>.lenA 0
 | .binOp op t y z _=>match P.underlying t with
  | some .bool=>.eqb (KL op) (kD y) (kD z)
  | some (.slice _)=>.isNil (KL op) (kD y)
  | some (.int _)=>.bin op (kD y) (kD z)
  | some .string=>.bin op (kD y) (kD z)
  | some (.pointer _)=>.pcmp (KL op) (kD y) (kD z)
  | _=>.eqv (KL op) ((n9 P 20 t).getD []) (kD y) (kD z)
 | .unOp op _ y=>.un op (kD y)
 | .convert s d y=>match P.underlying s,P.underlying d with
  | some .string,some .string=>.strS (kD y)
  | some (.int _),some (.int k)=>.conv k (kD y)
  | some (.slice _),some .string=>.b2s (kD y)
  | some .string,some (.slice e)=>.s2b e (kD y)
  | some (.slice _),some (.slice _)=>.mk8 (kD y)
  | some (.pointer u),_=>.cvp u (yO P u) (kD y)
  | _,some (.pointer u)=>.cvp u (yO P u) (kD y)
  | _,_=>.lenA 0
 | .makeFunc (.func f) os os'=>.mkfn f (UH os.toList) (UH os'.toList)
 | .makeSlice t l c=>.mksl (jF P t) (yO P (jF P t)) (Fd P (jF P t)) (Cu P (jF P t)) (kD l) (kD c)
 | .slice t y lo hi none=>match P.underlying t with
  | some (.slice e)=>.slcS (yO P e) (kD y) (Eg lo) (Eg hi)
  | some .string=>.slcT (kD y) (Eg lo) (Eg hi)
  | _=>match Cf P t with
   | some (n,e)=>.slcA n (yO P e) (kD y) (Eg lo) (Eg hi)
   | none=>.lenA 0
 | .sliceToArrayPointer t y=>match P.underlying t with
  | some (.array n _)=>.arrAt n (kD y)
  | some (.pointer u)=>match P.underlying u with
   | some (.array n _)=>.arrAt n (kD y)
   | _=>.lenA 0
  | _=>.lenA 0
 | .extract y i=>.ext (kD y) i
 | .call c=>UI P c
 | .makeMap t none=>.mkmap ((qL P t).getD none)
 | .mapUpdate t y k _=>.mput ((qL P t).getD none) (kD y) (kD k)
 | _=>.lenA 0
-- which slots are read behind a place
def KM:List Operand→List Nat
 | []=>[]
 | .tmp t :: r=>t :: KM r
 | _ :: r=>KM r
def UJ:Option Nat→List Nat
 | none=>[]
 | some d=>[d]
def NZ (ops:List Oper) (j:Nat):List Nat:=match ops[j]? with
 | some o=>UJ o.dst
 | none=>[]
def ZQ (ops:List Oper) (o:Oper):List Nat:=match o.guard with
 | some (j,_)=>NZ ops j
 | none=>[]
def WK (ops:List Oper) (o:Oper):List Nat:=Ct (KM o.op.operands.toList) (ZQ ops o)
def ZR (ops:List Oper) (o:Oper) (L:List Nat):List Nat:=Ct (iE (UJ o.dst) L) (WK ops o)
def N0 (ops:List Oper):List Oper→List Nat→List Nat
 | [],L=>L
 | o :: r,L=>ZR ops o (N0 ops r L)
def ZS (ops:List Oper):List Oper→List Nat→List (List Nat)
 | [],_=>[]
 | _ :: r,L=>N0 ops r L :: ZS ops r L
def TD:List (Nat × List Nat)→Nat→List Nat
 | [],_=>[]
 | (j,l) :: r,i=>match Nat.beq j i with
  | true=>l
  | false=>TD r i
def Fg (ret:List Nat):List (Nat × List Nat)→Code→List Nat→List Nat
 | _,.region _ ops _,L=>N0 ops.toList ops.toList L
 | ex,.seq a b,L=>Fg ret ex a (Fg ret ex b L)
 | ex,.cond o a b,L=>Ct (Ct (Fg ret ex a L) (Fg ret ex b L)) (KM [o])
 | ex,.block i c,L=>Fg ret ((i,L) :: ex) c L
 | ex,.loop c,L=>Fg ret ex c []
 | ex,.scope c,L=>Fg ret ex c L
 | ex,.exit i,_=>TD ex i
 | _,.ret,_=>ret
 | _,_,L=>L
def TE (ops:List Oper) (o:Oper):Option (Nat × Bool):=match o.guard with
 | some (j,b)=>match NZ ops j with
  | d :: _=>some (d,b)
  | []=>none
 | none=>none
def UK (ops:List Oper) (o:Oper):List Nat:=Ct (WK ops o) (UJ o.dst)
def TF:List Oper→Bool
 | []=>false
 | o :: r=>match o.op with
  | .panic _=>true
  | _=>TF r
def TG (P:Program) (ops:List Oper):List Oper→List (List Nat)→List Opr
 | o :: r,l :: ls=>⟨o.dst,WJ P o.op,TE ops o,ME (iE l (UK ops o)),[],[]⟩ :: TG P ops r ls
 | _,_=>[]
-- regions whose order is open
def UL:List Edge→List Nat
 | []=>[]
 | e :: r=>match Region.binds .any e with
  | true=>e.on :: UL r
  | false=>UL r
def WL (cl:List (List Nat)):List Nat→List Nat→List Nat
 | [],s=>s
 | e :: r,s=>WL cl r (Ct (Ct s [e]) (cl.getD e []))
def WM:List Oper→List (List Nat)→List (List Nat)
 | [],cl=>cl
 | o :: r,cl=>WM r (cl++[ME (WL cl (UL o.after.toList) [])])
def WN (pre:List Nat):Nat→Bool
 | 0=>true
 | i+1=>match MD i pre with
  | true=>WN pre i
  | false=>false
def N1 (cl:List (List Nat)):Nat→Nat
 | 0=>0
 | n+1=>match WN (cl.getD n []) n with
  | true=>N1 cl n
  | false=>n+1
def UM (ops:List Oper) (cl:List (List Nat)) (i:Nat):Nat→List Nat
 | 0=>[]
 | j+1=>match Nat.beq j i || MD j (cl.getD i []) || MD i (cl.getD j []) with
  | true=>UM ops cl i j
  | false=>Ct (UM ops cl i j) (NZ ops j)
def WO (ops:List Oper):Nat→List Nat
 | 0=>[]
 | k+1=>Ct (WO ops k) (match ops[k]? with|some o=>UK ops o|none=>[])
def N2 (P:Program) (ops:List Oper) (cl:List (List Nat)) (n k:Nat):Nat→List Oper→List (List Nat)→List Opr
 | i,o :: r,l :: ls=>⟨o.dst,WJ P o.op,TE ops o,(match Nat.beq (i+1) k with
  | true=>ME (iE l (WO ops k))
  | false=>match Nat.blt i k with
   | true=>[]
   | false=>ME (iE l (UK ops o))),cl.getD i [],ME (UM ops cl i n)⟩ :: N2 P ops cl n k (i+1) r ls
 | _,_,_=>[]
def TH:List Oper→Bool
 | []=>false
 | o :: r=>match o.op with
  | .store ..=>true
  | .mapUpdate ..=>true
  | _=>TH r
def wQ (P:Program) (ret:List Nat):List (Nat × List Nat)→Code→List Nat→SC
 | _,.region _ ops d,L=>match TF ops.toList with
  | true=>.bad
  | false=>match d with
   | false=>.reg (TG P ops.toList ops.toList (ZS ops.toList ops.toList L))
   | true=>
    let cl:=WM ops.toList []
    let k:=N1 cl ops.size
    let qs:=N2 P ops.toList cl ops.size k 0 ops.toList (ZS ops.toList ops.toList L)
    match TH (ops.toList.take k) with
    | true=>.regW k qs
    | false=>match HV [] (qs.take k) with
     | true=>.regP k qs
     | false=>.regD k qs
 | ex,.seq a b,L=>.seq (wQ P ret ex a (Fg ret ex b L)) (wQ P ret ex b L)
 | ex,.cond o a b,L=>.cond (kD o) (wQ P ret ex a L) (wQ P ret ex b L)
 | ex,.block i c,L=>.block i (wQ P ret ((i,L) :: ex) c L)
 | ex,.loop c,L=>.loop (wQ P ret ex c (Fg ret ex c []))
 | ex,.scope c,L=>wQ P ret ex c L
 | _,.exit i,_=>.exit i
 | _,.ret,_=>.ret
 | _,.skip,_=>.skip
 | _,.label _,_=>.skip
 | _,_,_=>.bad
def KN:List ResultVar→List Nat
 | []=>[]
 | .tmp t :: r=>t :: KN r
 | .cell a _ :: r=>a :: KN r
def N3 (P:Program):List ResultVar→List RV
 | []=>[]
 | .tmp t :: r=>.t t :: N3 P r
 | .cell a t :: r=>.c a (KK P t) :: N3 P r
def SC.keep (t:Nat):SC→SC
 | .regD k l=>.regK t k l
 | .seq a b=>.seq (a.keep t) (b.keep t)
 | .cond x a b=>.cond x (a.keep t) (b.keep t)
 | .block i c=>.block i (c.keep t)
 | .loop c=>.loop (c.keep t)
 | c=>c
def SF.keep (t:Nat) (s:SF):SF:=⟨s.n,s.res,s.body.keep t⟩
def aJ (P:Program) (fn:Func):SF:=⟨fn.ntmps,N3 P fn.results.toList,match fn.body with
 | some c=>wQ P (KN fn.results.toList) [] c (KN fn.results.toList)
 | none=>.bad⟩
end Go.Sx
