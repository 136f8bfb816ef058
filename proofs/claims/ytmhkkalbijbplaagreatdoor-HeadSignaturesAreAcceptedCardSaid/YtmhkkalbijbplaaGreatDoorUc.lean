/- The proof, part Uc: the texts EngCo. -/
import Derived.Test.YtmhkkalbijbplaaGreatDoorUb
set_option linter.unusedSimpArgs false
set_option linter.unusedVariables false
/- The engine, part Co: from the model's code of a function to the engine's text of it. (Nothing depends on how: `chkF` checks each text.) -/
namespace Go.Sx
open Go
set_option linter.unusedSimpArgs false
set_option linter.unusedVariables false
def coIn (x:Nat):List Nat→Bool
  | []=>false
  | y :: r=>match Nat.beq x y with
    | true=>true
    | false=>coIn x r
def uniN (a:List Nat):List Nat→List Nat
  | []=>a
  | x :: r=>match coIn x a with
    | true=>uniN a r
    | false=>uniN (x :: a) r
def subN (b:List Nat):List Nat→List Nat
  | []=>[]
  | x :: r=>match coIn x b with
    | true=>subN b r
    | false=>x :: subN b r
def insN (x:Nat):List Nat→List Nat
  | []=>[x]
  | y :: r=>match Nat.ble x y with
    | true=>x :: y :: r
    | false=>y :: insN x r
def srtN:List Nat→List Nat
  | []=>[]
  | x :: r=>insN x (srtN r)

def coV:Value→SV
  | .int k n=>.int k n
  | .bool b=>.bool b
  | .string t=>.str t.data.toList
  | v=>.val v
def coO:Operand→Opd
  | .tmp t=>.t t
  | .const v=>.c (coV v)
  | .global g=>.g g
  | .func f=>.f f
def coL:List Operand→List Opd
  | []=>[]
  | x :: r=>coO x :: coL r
def coZ:List Value→List SV
  | []=>[]
  | x :: r=>coV x :: coZ r
def coOpt:Option Operand→Option Opd
  | none=>none
  | some o=>some (coO o)
def coZero (P:Program) (t:TypeId):List SV:=match P.info? t with
  | some i=>match i.zero with
    | some v=>coZ v.cells.toList
    | none=>[]
  | none=>[]
def coElem (P:Program) (t:TypeId):TypeId:=match P.underlying t with
  | some (.slice e)=>e
  | some (.array _ e)=>e
  | some (.pointer u)=>match P.underlying u with
    | some (.array _ e)=>e
    | _=>u
  | _=>0
def coSz (P:Program) (t:TypeId):Nat:=(sizeT P t).getD 0
def coBytes (P:Program) (t:TypeId):Nat:=((P.info? t).map (·.bytes)).getD 0
def coAgg (P:Program) (t:TypeId):Option Nat:=(aggOf P t).getD none
def coParts (place:Nat→Option (Nat × Nat)):List (Nat × Operand)→List (Nat × Nat × Opd)
  | []=>[]
  | (i,o) :: r=>match place i with
    | some (a,b)=>(a,b,coO o) :: coParts place r
    | none=>[]
mutual
def coPlain (P:Program):Nat→TypeId→Bool
  | 0,_=>false
  | d+1,t=>match P.underlying t with
    | some .bool=>true
    | some (.int _)=>true
    | some .string=>true
    | some (.struct fs)=>coPlainL P d (fs.toList.map (·.type))
    | some (.array _ e)=>coPlain P d e
    | _=>false
def coPlainL (P:Program):Nat→List TypeId→Bool
  | 0,l=>l.isEmpty
  | d+1,l=>match l with
    | []=>true
    | t :: r=>match coPlain P d t with
      | true=>coPlainL P d r
      | false=>false
end
def coPl (P:Program):List TypeId→Bool
  | []=>true
  | t :: r=>match coPlain P 20 t with
    | true=>coPl P r
    | false=>false
def coCall (P:Program) (c:Call):SOp:=
  match c.callee with
  | .value (.func f)=>match P.funcs[f]? with
    | some fn=>match noescF P f,c.args.toList with
      | true,[x]=>.noesc f (coO x)
      | _,l=>match coPl P (fn.params.toList++fn.resultTypes.toList) with
        | true=>.callp f (coL l)
        | false=>.call f (coL l)
    | none=>.call f (coL c.args.toList)
  | .value o=>.callv (coO o) (coL c.args.toList)
  | .builtin .len=>match c.argTypes.toList,c.args.toList with
    | [t],[x]=>match P.underlying t with
      | some .string=>.len true (coO x)
      | some (.slice _)=>.len false (coO x)
      | some (.map _ _)=>.mlen (coO x)
      | _=>.lenA (((arrTy P t).map (·.1)).getD 0)
    | _,_=>.lenA 0
  | .builtin .append=>match c.argTypes.toList,c.args.toList with
    | [t,u],[x,y]=>match P.underlying u with
      | some (.int _)=>.appZ (coElem P t) (coSz P (coElem P t)) (coBytes P (coElem P t)) (coZero P (coElem P t)) (coO x) (coO y)
      | _=>.app (coElem P t) (coSz P (coElem P t)) (coBytes P (coElem P t)) (coO x) (coO y)
    | _,_=>.lenA 0
  | .builtin .cap=>match c.args.toList with
    | [x]=>.capN (coO x)
    | _=>.lenA 0
  | .builtin .copy=>match c.argTypes.toList,c.args.toList with
    | [t,_],[x,y]=>.copy (coSz P (coElem P t)) (coO x) (coO y)
    | _,_=>.lenA 0
  | .builtin .unsafeSliceData=>match c.argTypes.toList,c.args.toList with
    | [t],[x]=>.sdat (coSz P (coElem P t)) (coO x)
    | _,_=>.lenA 0
  | .builtin .unsafeString=>match c.argTypes.toList,c.args.toList with
    | t :: _,[x,y]=>.ustr (coElem P t) (coO x) (coO y)
    | _,_=>.lenA 0
  | .builtin .max=>match c.args.toList with
    | [x,y]=>.mx (coO x) (coO y)
    | _=>.lenA 0
  | .builtin .min=>match c.args.toList with
    | [x,y]=>.mn (coO x) (coO y)
    | _=>.lenA 0
  | _=>.lenA 0
def coNeg:BinOp→Bool
  | .neq=>true
  | _=>false
def coOp (P:Program):Op→SOp
  | .move y=>.mv (coO y)
  | .assign y=>.mv (coO y)
  | .pick c a b=>.pick (coO c) (coO a) (coO b)
  | .alloc t=>.new t (coZero P t)
  | .box t y=>.box t (coO y)
  | .build t ps=>.build (coZero P t) (coParts ((placeOf P t).getD fun _=>none) ps.toList)
  | .buildSlice t k ps=>.bslice (coElem P t) (coSz P (coElem P t)) k ((List.replicate k (coZero P (coElem P t))).flatten) (coParts (fun i=>some (i * coSz P (coElem P t),coSz P (coElem P t))) ps.toList)
  | .load t y=>.load (coAgg P t) (coO y)
  | .store t y v=>.store (coSz P t) (coO y) (coO v)
  | .nilCheck y=>.nilc (coO y)
  | .fieldAddr t y f=>match P.underlying t with
    | some (.struct fs)=>.fld (coO y) (((fs[f]?).map (·.offset)).getD 0)
    | _=>.lenA 0
  | .field t y f=>match P.underlying t with
    | some (.struct fs)=>match fs[f]? with
      | some fd=>.fieldV (coO y) fd.offset (coAgg P fd.type)
      | none=>.lenA 0
    | _=>.lenA 0
  | .indexAddr t y j=>match P.underlying t with
    | some (.array n e)=>.idxA (coO y) (coO j) n (coSz P e)
    | some (.slice e)=>.idxS (coO y) (coO j) (coSz P e)
    | _=>.lenA 0
  | .index t y j=>match P.underlying t with
    | some (.array n e)=>.idxV (coO y) (coO j) n (coSz P e) (coAgg P e).isSome
    | some .string=>.idxT (coO y) (coO j)
    | _=>.lenA 0
  | .binOp op t y z _=>match P.underlying t with
    | some .bool=>.eqb (coNeg op) (coO y) (coO z)
    | some (.slice _)=>.isNil (coNeg op) (coO y)
    | some (.int _)=>.bin op (coO y) (coO z)
    | some .string=>.bin op (coO y) (coO z)
    | some (.pointer _)=>.pcmp (coNeg op) (coO y) (coO z)
    | _=>.eqv (coNeg op) ((tagsOf P 20 t).getD []) (coO y) (coO z)
  | .unOp op _ y=>.un op (coO y)
  | .convert s d y=>match P.underlying s,P.underlying d with
    | some .string,some .string=>.strS (coO y)
    | some (.int _),some (.int k)=>.conv k (coO y)
    | some (.slice _),some .string=>.b2s (coO y)
    | some .string,some (.slice e)=>.s2b e (coO y)
    | some (.slice _),some (.slice _)=>.mk8 (coO y)
    | some (.pointer u),_=>.cvp u (coSz P u) (coO y)
    | _,some (.pointer u)=>.cvp u (coSz P u) (coO y)
    | _,_=>.lenA 0
  | .makeFunc (.func f) os os'=>.mkfn f (coL os.toList) (coL os'.toList)
  | .makeSlice t l c=>.mksl (coElem P t) (coSz P (coElem P t)) (coBytes P (coElem P t)) (coZero P (coElem P t)) (coO l) (coO c)
  | .slice t y lo hi none=>match P.underlying t with
    | some (.slice e)=>.slcS (coSz P e) (coO y) (coOpt lo) (coOpt hi)
    | some .string=>.slcT (coO y) (coOpt lo) (coOpt hi)
    | _=>match arrTy P t with
      | some (n,e)=>.slcA n (coSz P e) (coO y) (coOpt lo) (coOpt hi)
      | none=>.lenA 0
  | .sliceToArrayPointer t y=>match P.underlying t with
    | some (.array n _)=>.arrAt n (coO y)
    | some (.pointer u)=>match P.underlying u with
      | some (.array n _)=>.arrAt n (coO y)
      | _=>.lenA 0
    | _=>.lenA 0
  | .extract y i=>.ext (coO y) i
  | .call c=>coCall P c
  | .makeMap t none=>.mkmap ((mapKeyOf P t).getD none)
  | .mapUpdate t y k _=>.mput ((mapKeyOf P t).getD none) (coO y) (coO k)
  | _=>.lenA 0

-- which slots are read behind a place
def tmpsL:List Operand→List Nat
  | []=>[]
  | .tmp t :: r=>t :: tmpsL r
  | _ :: r=>tmpsL r
def optL:Option Nat→List Nat
  | none=>[]
  | some d=>[d]
def dstAt (ops:List Oper) (j:Nat):List Nat:=match ops[j]? with
  | some o=>optL o.dst
  | none=>[]
def grdL (ops:List Oper) (o:Oper):List Nat:=match o.guard with
  | some (j,_)=>dstAt ops j
  | none=>[]
def refL (ops:List Oper) (o:Oper):List Nat:=uniN (tmpsL o.op.operands.toList) (grdL ops o)
def bfor (ops:List Oper) (o:Oper) (L:List Nat):List Nat:=uniN (subN (optL o.dst) L) (refL ops o)
def bforL (ops:List Oper):List Oper→List Nat→List Nat
  | [],L=>L
  | o :: r,L=>bfor ops o (bforL ops r L)
def lvs (ops:List Oper):List Oper→List Nat→List (List Nat)
  | [],_=>[]
  | _ :: r,L=>bforL ops r L :: lvs ops r L
def findL:List (Nat × List Nat)→Nat→List Nat
  | [],_=>[]
  | (j,l) :: r,i=>match Nat.beq j i with
    | true=>l
    | false=>findL r i
def live (ret:List Nat):List (Nat × List Nat)→Code→List Nat→List Nat
  | _,.region _ ops _,L=>bforL ops.toList ops.toList L
  | ex,.seq a b,L=>live ret ex a (live ret ex b L)
  | ex,.cond o a b,L=>uniN (uniN (live ret ex a L) (live ret ex b L)) (tmpsL [o])
  | ex,.block i c,L=>live ret ((i,L) :: ex) c L
  | ex,.loop c,L=>live ret ex c []
  | ex,.scope c,L=>live ret ex c L
  | ex,.exit i,_=>findL ex i
  | _,.ret,_=>ret
  | _,_,L=>L
def coGrd (ops:List Oper) (o:Oper):Option (Nat × Bool):=match o.guard with
  | some (j,b)=>match dstAt ops j with
    | d :: _=>some (d,b)
    | []=>none
  | none=>none
def allL (ops:List Oper) (o:Oper):List Nat:=uniN (refL ops o) (optL o.dst)
def isPan:List Oper→Bool
  | []=>false
  | o :: r=>match o.op with
    | .panic _=>true
    | _=>isPan r
def coReg (P:Program) (ops:List Oper):List Oper→List (List Nat)→List Opr
  | o :: r,l :: ls=>⟨o.dst,coOp P o.op,coGrd ops o,srtN (subN l (allL ops o)),[],[]⟩ :: coReg P ops r ls
  | _,_=>[]
-- regions whose order is open
def edgN:List Edge→List Nat
  | []=>[]
  | e :: r=>match Region.binds .any e with
    | true=>e.on :: edgN r
    | false=>edgN r
def clo1 (cl:List (List Nat)):List Nat→List Nat→List Nat
  | [],s=>s
  | e :: r,s=>clo1 cl r (uniN (uniN s [e]) (cl.getD e []))
def clos:List Oper→List (List Nat)→List (List Nat)
  | [],cl=>cl
  | o :: r,cl=>clos r (cl++[srtN (clo1 cl (edgN o.after.toList) [])])
def totl (pre:List Nat):Nat→Bool
  | 0=>true
  | i+1=>match coIn i pre with
    | true=>totl pre i
    | false=>false
def firstK (cl:List (List Nat)):Nat→Nat
  | 0=>0
  | n+1=>match totl (cl.getD n []) n with
    | true=>firstK cl n
    | false=>n+1
def hidL (ops:List Oper) (cl:List (List Nat)) (i:Nat):Nat→List Nat
  | 0=>[]
  | j+1=>match Nat.beq j i || coIn j (cl.getD i []) || coIn i (cl.getD j []) with
    | true=>hidL ops cl i j
    | false=>uniN (hidL ops cl i j) (dstAt ops j)
def unis (ops:List Oper):Nat→List Nat
  | 0=>[]
  | k+1=>uniN (unis ops k) (match ops[k]? with | some o=>allL ops o | none=>[])
def coRegD (P:Program) (ops:List Oper) (cl:List (List Nat)) (n k:Nat):Nat→List Oper→List (List Nat)→List Opr
  | i,o :: r,l :: ls=>⟨o.dst,coOp P o.op,coGrd ops o,(match Nat.beq (i+1) k with
      | true=>srtN (subN l (unis ops k))
      | false=>match Nat.blt i k with
        | true=>[]
        | false=>srtN (subN l (allL ops o))),cl.getD i [],srtN (hidL ops cl i n)⟩ :: coRegD P ops cl n k (i+1) r ls
  | _,_,_=>[]
def hasSt:List Oper→Bool
  | []=>false
  | o :: r=>match o.op with
    | .store ..=>true
    | .mapUpdate ..=>true
    | _=>hasSt r
def coCode (P:Program) (ret:List Nat):List (Nat × List Nat)→Code→List Nat→SC
  | _,.region _ ops d,L=>match isPan ops.toList with
    | true=>.bad
    | false=>match d with
      | false=>.reg (coReg P ops.toList ops.toList (lvs ops.toList ops.toList L))
      | true=>
        let cl:=clos ops.toList []
        let k:=firstK cl ops.size
        let qs:=coRegD P ops.toList cl ops.size k 0 ops.toList (lvs ops.toList ops.toList L)
        match hasSt (ops.toList.take k) with
        | true=>.regW k qs
        | false=>match pureL [] (qs.take k) with
          | true=>.regP k qs
          | false=>.regD k qs
  | ex,.seq a b,L=>.seq (coCode P ret ex a (live ret ex b L)) (coCode P ret ex b L)
  | ex,.cond o a b,L=>.cond (coO o) (coCode P ret ex a L) (coCode P ret ex b L)
  | ex,.block i c,L=>.block i (coCode P ret ((i,L) :: ex) c L)
  | ex,.loop c,L=>.loop (coCode P ret ex c (live ret ex c []))
  | ex,.scope c,L=>coCode P ret ex c L
  | _,.exit i,_=>.exit i
  | _,.ret,_=>.ret
  | _,.skip,_=>.skip
  | _,.label _,_=>.skip
  | _,_,_=>.bad
def resTm:List ResultVar→List Nat
  | []=>[]
  | .tmp t :: r=>t :: resTm r
  | .cell a _ :: r=>a :: resTm r
def coRes (P:Program):List ResultVar→List RV
  | []=>[]
  | .tmp t :: r=>.t t :: coRes P r
  | .cell a t :: r=>.c a (coAgg P t) :: coRes P r
def SC.keep (t:Nat):SC→SC
  | .regD k l=>.regK t k l
  | .seq a b=>.seq (a.keep t) (b.keep t)
  | .cond x a b=>.cond x (a.keep t) (b.keep t)
  | .block i c=>.block i (c.keep t)
  | .loop c=>.loop (c.keep t)
  | c=>c
def SF.keep (t:Nat) (s:SF):SF:=⟨s.n,s.res,s.body.keep t⟩
def mkSF (P:Program) (fn:Func):SF:=⟨fn.ntmps,coRes P fn.results.toList,match fn.body with
  | some c=>coCode P (resTm fn.results.toList) [] c (resTm fn.results.toList)
  | none=>.bad⟩
end Go.Sx
