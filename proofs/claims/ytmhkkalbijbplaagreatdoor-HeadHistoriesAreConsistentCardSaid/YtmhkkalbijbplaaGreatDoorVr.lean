/- The proof, part Vr: PvA, PvB, LvA, SgA, HdD, HdE, HdF, HdG, HdJ, HdK, HdI, HdN, AcA. -/
import Derived.Test.YtmhkkalbijbplaaGreatDoorVm
import Derived.Test.YtmhkkalbijbplaaGreatDoorVq
import Derived.RangeFuncNested
import Derived.RangeFuncBox
import Derived.RangeFuncCalls
import Derived.RangeFuncLeaves
import Derived.Shelf.Abstract
import Derived.WalkKit
import Derived.OwnWalkIn
import Derived.TacticsInMore
import Derived.LoopNIn
import Derived.LoopIn
import Derived.Maps.AppendAt
import Derived.Deep.WholeRow
set_option linter.unusedSimpArgs false
set_option linter.unusedVariables false
set_option maxRecDepth 100000
set_option maxHeartbeats 16000000
namespace Go.Proofs.YtmhkkalbijbplaaGreatDoor
open Go Go.Sx
def fK (X:List UInt8) (s h:Nat):List UInt8:=dM h ((X.drop (16 * s)).take (16 * 2 ^ h))
theorem eT (X:List UInt8) (s h:Nat):(fK X s h).length=16:=dJ _ _
theorem FR (X:List UInt8) (N a b s h k:Nat) (hh:h≤6) (hk:2 ^ h=k) (hX:X.length=16 * N) (hs:s+k≤N) (hN:N≤64) :
  Fun Tryz.prog aO 124 [.int .i64 (a:Int),.int .i64 (b:Int),.int .i64 (s:Int),.int .i64 (k:Int),.ptr 0 0,.ptr 1 0] [(0,⟨.own 40,[.val (.slice none 0 0)]⟩),(1,⟨.view,[.slc 2 0 16 N none]⟩),(2,⟨.view,aB X⟩)] 3 (.tup [])
   [(3,⟨.own 24,aB (fK X s h)⟩),(0,⟨.own 40,[.slc 3 0 16 1 none]⟩)] 4:=by
 refine fV Tryz.f124 (by kernel_rfl) (by decide) ?_
 conv in aJ _ _=>(reduce;simp only[aH,seval])
 have lx:((X.drop (16 * s)).take (16 * k)).length=16 * k:=by rw[List.length_take,List.length_drop];omega
 have fr:=Ib h hh ((X.drop (16 * s)).take (16 * k)) (by rw[hk];exact lx)
 rw[hk] at fr
 have lr:=eT X s h
 have t2:List.take (16 * k) (List.drop (s * 16) (aB X))=aB ((X.drop (16 * s)).take (16 * k)):=by rw[Nat.mul_comm s];simp[aB,List.map_take,List.map_drop]
 unfold fK at *
 rw[hk] at lr ⊢
 generalize (X.drop (16 * s)).take (16 * k)=Y at *
 generalize dM h Y=R at *
 have w1:IntKind.i64.wrap ((s:Int)+(k:Int))=((s+k:Nat):Int):=by rw[aD (by omega) (by omega)];omega
 have c1:(0:Int)≤(s:Int):=by omega
 have c2:(s:Int)≤((s+k:Nat):Int):=by omega
 have c3:((s+k:Nat):Int)≤(N:Int):=by omega
 have c4:s+k - s=k:=by omega
 have c5:s * 16+16 * k≤16 * N:=by omega
 have c6:(s+k) * 16≤16 * N:=by omega
 have c7:s * 16≤16 * N:=by omega
 have c8:N * 16≤16 * N:=by omega
 simp only[w1,c1,c2,c3,c4,c8,hX,NV,↓NP,seval]
 refine aI [(2,s * 16)] fr ?_
 simp only[lx,lr,hX,t2,c5,NV,NJ,↓NP,bC,seval]
 exact⟨[(0,0),(1,0),(2,0),(4,0)],by simp[NF,seval]⟩
theorem LO (X O:List UInt8) (hO:O.length=16) (N a b s h k:Nat) (hh:h≤6) (hk:2 ^ h=k) (hX:X.length=16 * N) (hs:s+k≤N) (hN:N≤64) :
  Fun Tryz.prog aO 124 [.int .i64 (a:Int),.int .i64 (b:Int),.int .i64 (s:Int),.int .i64 (k:Int),.ptr 0 0,.ptr 1 0] [(0,⟨.own 40,[.slc 3 0 16 1 none]⟩),(1,⟨.view,[.slc 2 0 16 N none]⟩),(2,⟨.view,aB X⟩),(3,⟨.own 24,aB O⟩)] 4 (.tup [])
   [(4,⟨.own 24,aB (O++fK X s h)⟩),(0,⟨.own 40,[.slc 4 0 16 2 none]⟩)] 5:=by
 refine fV Tryz.f124 (by kernel_rfl) (by decide) ?_
 conv in aJ _ _=>(reduce;simp only[aH,seval])
 have lx:((X.drop (16 * s)).take (16 * k)).length=16 * k:=by rw[List.length_take,List.length_drop];omega
 have fr:=Ib h hh ((X.drop (16 * s)).take (16 * k)) (by rw[hk];exact lx)
 rw[hk] at fr
 have lr:=eT X s h
 have t2:List.take (16 * k) (List.drop (s * 16) (aB X))=aB ((X.drop (16 * s)).take (16 * k)):=by rw[Nat.mul_comm s];simp[aB,List.map_take,List.map_drop]
 unfold fK at *
 rw[hk] at lr ⊢
 generalize (X.drop (16 * s)).take (16 * k)=Y at *
 generalize dM h Y=R at *
 have w1:IntKind.i64.wrap ((s:Int)+(k:Int))=((s+k:Nat):Int):=by rw[aD (by omega) (by omega)];omega
 have c1:(0:Int)≤(s:Int):=by omega
 have c2:(s:Int)≤((s+k:Nat):Int):=by omega
 have c3:((s+k:Nat):Int)≤(N:Int):=by omega
 have c4:s+k - s=k:=by omega
 have c5:s * 16+16 * k≤16 * N:=by omega
 have c6:(s+k) * 16≤16 * N:=by omega
 have c7:s * 16≤16 * N:=by omega
 have c8:N * 16≤16 * N:=by omega
 simp only[w1,c1,c2,c3,c4,c8,hX,NV,↓NP,seval]
 refine aI [(2,s * 16)] fr ?_
 simp only[hO,lx,lr,hX,t2,c5,NV,NJ,↓NP,bC,seval]
 exact⟨[(0,0),(1,0),(2,0),(3,0),(5,0)],by simp[NF,seval];simp[aB]⟩
theorem SR (X:List UInt8) (hX:X.length=32):Fun Tryz.prog aO 123 [.int .i64 2,.int .i64 0,.fn 124 [] [.ptr 0 0,.ptr 1 0]] [(0,⟨.own 40,[.val (.slice none 0 0)]⟩),(1,⟨.view,[.slc 2 0 16 2 none]⟩),(2,⟨.view,aB X⟩)] 3 (.tup []) [(3,⟨.own 24,aB (fK X 1 0)⟩),(0,⟨.own 40,[.slc 3 0 16 1 none]⟩)] 4:=by
 refine fV Tryz.f123 (by kernel_rfl) (by decide) ?_
 conv in aJ _ _=>(reduce;simp only[aH,seval])
 have s0:Fun Tryz.prog aO 110 [.int .i64 2] [] 0 (.int .i64 1) [] 0:=f106 (tS:=aO) 0 (by decide)
 have g0:Fun Tryz.prog aO 124 [.int .i64 0,.int .i64 1,.int .i64 1,.int .i64 1,.ptr 0 0,.ptr 1 0] _ 3 _ _ _:=FR X 2 0 1 1 0 1 (by decide) rfl hX (by decide) (by decide)
 have l0:=eT X 1 0
 generalize fK X 1 0=R0 at *
 simp only[NV,↓NP,seval]
 rw[aL]
 refine a8 (fun _ _ _ _ _ h=>h) (aN _ _) 2 ?_
 simp only[NV,↓NP,seval]
 refine aE s0 ?_
 simp only[NV,↓NP,seval]
 refine aI [(0,0),(1,0),(2,0)] g0 ?_
 simp only[hX,NV,NJ,↓NP,seval]
 exact⟨[(0,0),(1,0),(2,0),(3,0)],by simp[NF,seval]⟩
theorem SS (X:List UInt8) (hX:X.length=32):Fun Tryz.prog aO 123 [.int .i64 2,.int .i64 1,.fn 124 [] [.ptr 0 0,.ptr 1 0]] [(0,⟨.own 40,[.val (.slice none 0 0)]⟩),(1,⟨.view,[.slc 2 0 16 2 none]⟩),(2,⟨.view,aB X⟩)] 3 (.tup []) [(3,⟨.own 24,aB (fK X 0 0)⟩),(0,⟨.own 40,[.slc 3 0 16 1 none]⟩)] 4:=by
 refine fV Tryz.f123 (by kernel_rfl) (by decide) ?_
 conv in aJ _ _=>(reduce;simp only[aH,seval])
 have s0:Fun Tryz.prog aO 110 [.int .i64 2] [] 0 (.int .i64 1) [] 0:=f106 (tS:=aO) 0 (by decide)
 have g0:Fun Tryz.prog aO 124 [.int .i64 1,.int .i64 1,.int .i64 0,.int .i64 1,.ptr 0 0,.ptr 1 0] _ 3 _ _ _:=FR X 2 1 1 0 0 1 (by decide) rfl hX (by decide) (by decide)
 have l0:=eT X 0 0
 generalize fK X 0 0=R0 at *
 simp only[NV,↓NP,seval]
 rw[aL]
 refine a8 (fun _ _ _ _ _ h=>h) (aN _ _) 2 ?_
 simp only[NV,↓NP,seval]
 refine aE s0 ?_
 simp only[NV,↓NP,seval]
 refine aI [(0,0),(1,0),(2,0)] g0 ?_
 simp only[hX,NV,NJ,↓NP,seval]
 exact⟨[(0,0),(1,0),(2,0),(3,0)],by simp[NF,seval]⟩
theorem ST (X:List UInt8) (hX:X.length=64):Fun Tryz.prog aO 123 [.int .i64 4,.int .i64 0,.fn 124 [] [.ptr 0 0,.ptr 1 0]] [(0,⟨.own 40,[.val (.slice none 0 0)]⟩),(1,⟨.view,[.slc 2 0 16 4 none]⟩),(2,⟨.view,aB X⟩)] 3 (.tup []) [(3,⟨.own 24,aB (fK X 2 1++fK X 1 0)⟩),(0,⟨.own 40,[.slc 3 0 16 2 none]⟩)] 4:=by
 refine fV Tryz.f123 (by kernel_rfl) (by decide) ?_
 conv in aJ _ _=>(reduce;simp only[aH,seval])
 have s0:Fun Tryz.prog aO 110 [.int .i64 4] [] 0 (.int .i64 2) [] 0:=f106 (tS:=aO) 1 (by decide)
 have s1:Fun Tryz.prog aO 110 [.int .i64 2] [] 0 (.int .i64 1) [] 0:=f106 (tS:=aO) 0 (by decide)
 have g0:Fun Tryz.prog aO 124 [.int .i64 0,.int .i64 2,.int .i64 2,.int .i64 2,.ptr 0 0,.ptr 1 0] _ 3 _ _ _:=FR X 4 0 2 2 1 2 (by decide) rfl hX (by decide) (by decide)
 have l0:=eT X 2 1
 have g1:Fun Tryz.prog aO 124 [.int .i64 0,.int .i64 1,.int .i64 1,.int .i64 1,.ptr 0 0,.ptr 1 0] _ 4 _ _ _:=LO X _ l0 4 0 1 1 0 1 (by decide) rfl hX (by decide) (by decide)
 have l1:=eT X 1 0
 generalize fK X 2 1=R0 at *
 generalize fK X 1 0=R1 at *
 simp only[NV,↓NP,seval]
 rw[aL]
 refine a8 (fun _ _ _ _ _ h=>h) (aN _ _) 3 ?_
 simp only[NV,↓NP,seval]
 refine aE s0 ?_
 simp only[NV,↓NP,seval]
 refine aI [(0,0),(1,0),(2,0)] g0 ?_
 simp only[hX,NV,NJ,↓NP,seval]
 refine aE s1 ?_
 simp only[NV,↓NP,seval]
 refine aI [(0,0),(1,0),(2,0),(3,0)] g1 ?_
 simp only[hX,NV,NJ,↓NP,seval]
 exact⟨[(0,0),(1,0),(2,0),(4,0)],by simp[NF,seval]⟩
theorem SU (X:List UInt8) (hX:X.length=64):Fun Tryz.prog aO 123 [.int .i64 4,.int .i64 1,.fn 124 [] [.ptr 0 0,.ptr 1 0]] [(0,⟨.own 40,[.val (.slice none 0 0)]⟩),(1,⟨.view,[.slc 2 0 16 4 none]⟩),(2,⟨.view,aB X⟩)] 3 (.tup []) [(3,⟨.own 24,aB (fK X 2 1++fK X 0 0)⟩),(0,⟨.own 40,[.slc 3 0 16 2 none]⟩)] 4:=by
 refine fV Tryz.f123 (by kernel_rfl) (by decide) ?_
 conv in aJ _ _=>(reduce;simp only[aH,seval])
 have s0:Fun Tryz.prog aO 110 [.int .i64 4] [] 0 (.int .i64 2) [] 0:=f106 (tS:=aO) 1 (by decide)
 have s1:Fun Tryz.prog aO 110 [.int .i64 2] [] 0 (.int .i64 1) [] 0:=f106 (tS:=aO) 0 (by decide)
 have g0:Fun Tryz.prog aO 124 [.int .i64 0,.int .i64 2,.int .i64 2,.int .i64 2,.ptr 0 0,.ptr 1 0] _ 3 _ _ _:=FR X 4 0 2 2 1 2 (by decide) rfl hX (by decide) (by decide)
 have l0:=eT X 2 1
 have g1:Fun Tryz.prog aO 124 [.int .i64 1,.int .i64 1,.int .i64 0,.int .i64 1,.ptr 0 0,.ptr 1 0] _ 4 _ _ _:=LO X _ l0 4 1 1 0 0 1 (by decide) rfl hX (by decide) (by decide)
 have l1:=eT X 0 0
 generalize fK X 2 1=R0 at *
 generalize fK X 0 0=R1 at *
 simp only[NV,↓NP,seval]
 rw[aL]
 refine a8 (fun _ _ _ _ _ h=>h) (aN _ _) 3 ?_
 simp only[NV,↓NP,seval]
 refine aE s0 ?_
 simp only[NV,↓NP,seval]
 refine aI [(0,0),(1,0),(2,0)] g0 ?_
 simp only[hX,NV,NJ,↓NP,seval]
 refine aE s1 ?_
 simp only[NV,↓NP,seval]
 refine aI [(0,0),(1,0),(2,0),(3,0)] g1 ?_
 simp only[hX,NV,NJ,↓NP,seval]
 exact⟨[(0,0),(1,0),(2,0),(4,0)],by simp[NF,seval]⟩
theorem SW (X:List UInt8) (hX:X.length=64):Fun Tryz.prog aO 123 [.int .i64 4,.int .i64 2,.fn 124 [] [.ptr 0 0,.ptr 1 0]] [(0,⟨.own 40,[.val (.slice none 0 0)]⟩),(1,⟨.view,[.slc 2 0 16 4 none]⟩),(2,⟨.view,aB X⟩)] 3 (.tup []) [(3,⟨.own 24,aB (fK X 0 1++fK X 3 0)⟩),(0,⟨.own 40,[.slc 3 0 16 2 none]⟩)] 4:=by
 refine fV Tryz.f123 (by kernel_rfl) (by decide) ?_
 conv in aJ _ _=>(reduce;simp only[aH,seval])
 have s0:Fun Tryz.prog aO 110 [.int .i64 4] [] 0 (.int .i64 2) [] 0:=f106 (tS:=aO) 1 (by decide)
 have s1:Fun Tryz.prog aO 110 [.int .i64 2] [] 0 (.int .i64 1) [] 0:=f106 (tS:=aO) 0 (by decide)
 have g0:Fun Tryz.prog aO 124 [.int .i64 2,.int .i64 2,.int .i64 0,.int .i64 2,.ptr 0 0,.ptr 1 0] _ 3 _ _ _:=FR X 4 2 2 0 1 2 (by decide) rfl hX (by decide) (by decide)
 have l0:=eT X 0 1
 have g1:Fun Tryz.prog aO 124 [.int .i64 2,.int .i64 1,.int .i64 3,.int .i64 1,.ptr 0 0,.ptr 1 0] _ 4 _ _ _:=LO X _ l0 4 2 1 3 0 1 (by decide) rfl hX (by decide) (by decide)
 have l1:=eT X 3 0
 generalize fK X 0 1=R0 at *
 generalize fK X 3 0=R1 at *
 simp only[NV,↓NP,seval]
 rw[aL]
 refine a8 (fun _ _ _ _ _ h=>h) (aN _ _) 3 ?_
 simp only[NV,↓NP,seval]
 refine aE s0 ?_
 simp only[NV,↓NP,seval]
 refine aI [(0,0),(1,0),(2,0)] g0 ?_
 simp only[hX,NV,NJ,↓NP,seval]
 refine aE s1 ?_
 simp only[NV,↓NP,seval]
 refine aI [(0,0),(1,0),(2,0),(3,0)] g1 ?_
 simp only[hX,NV,NJ,↓NP,seval]
 exact⟨[(0,0),(1,0),(2,0),(4,0)],by simp[NF,seval]⟩
theorem SY (X:List UInt8) (hX:X.length=64):Fun Tryz.prog aO 123 [.int .i64 4,.int .i64 3,.fn 124 [] [.ptr 0 0,.ptr 1 0]] [(0,⟨.own 40,[.val (.slice none 0 0)]⟩),(1,⟨.view,[.slc 2 0 16 4 none]⟩),(2,⟨.view,aB X⟩)] 3 (.tup []) [(3,⟨.own 24,aB (fK X 0 1++fK X 2 0)⟩),(0,⟨.own 40,[.slc 3 0 16 2 none]⟩)] 4:=by
 refine fV Tryz.f123 (by kernel_rfl) (by decide) ?_
 conv in aJ _ _=>(reduce;simp only[aH,seval])
 have s0:Fun Tryz.prog aO 110 [.int .i64 4] [] 0 (.int .i64 2) [] 0:=f106 (tS:=aO) 1 (by decide)
 have s1:Fun Tryz.prog aO 110 [.int .i64 2] [] 0 (.int .i64 1) [] 0:=f106 (tS:=aO) 0 (by decide)
 have g0:Fun Tryz.prog aO 124 [.int .i64 2,.int .i64 2,.int .i64 0,.int .i64 2,.ptr 0 0,.ptr 1 0] _ 3 _ _ _:=FR X 4 2 2 0 1 2 (by decide) rfl hX (by decide) (by decide)
 have l0:=eT X 0 1
 have g1:Fun Tryz.prog aO 124 [.int .i64 3,.int .i64 1,.int .i64 2,.int .i64 1,.ptr 0 0,.ptr 1 0] _ 4 _ _ _:=LO X _ l0 4 3 1 2 0 1 (by decide) rfl hX (by decide) (by decide)
 have l1:=eT X 2 0
 generalize fK X 0 1=R0 at *
 generalize fK X 2 0=R1 at *
 simp only[NV,↓NP,seval]
 rw[aL]
 refine a8 (fun _ _ _ _ _ h=>h) (aN _ _) 3 ?_
 simp only[NV,↓NP,seval]
 refine aE s0 ?_
 simp only[NV,↓NP,seval]
 refine aI [(0,0),(1,0),(2,0)] g0 ?_
 simp only[hX,NV,NJ,↓NP,seval]
 refine aE s1 ?_
 simp only[NV,↓NP,seval]
 refine aI [(0,0),(1,0),(2,0),(3,0)] g1 ?_
 simp only[hX,NV,NJ,↓NP,seval]
 exact⟨[(0,0),(1,0),(2,0),(4,0)],by simp[NF,seval]⟩
variable {tS:List (Nat × List SV)}
theorem nW (b:List UInt8) (k:Nat):List.drop k (aB b)=aB (b.drop k):=by simp[aB]
theorem Px (A:List UInt8) (hA:A.length=16):Fun Tryz.prog tS 125 [.slc 0 0 16 1 none] [(0,⟨.own 24,aB A⟩)] 1 (.tup []) [(0,⟨.own 24,aB A⟩)] 1:=by
 refine fV Tryz.f125 (by kernel_rfl) (by decide) ?_
 conv in aJ _ _=>(reduce;simp only[aH,seval])
 simp only[NV,↓NP,seval]
 rw[aL]
 refine a8 (fun _ _ _ _ _ h=>h) (aN _ _) 1 ?_
 simp only[NV,↓NP,seval]
 exact⟨[(0,0)],by simp[NF,seval]⟩
theorem G5 (A B:List UInt8) (hA:A.length=16) (hB:B.length=16):Fun Tryz.prog tS 125 [.slc 0 0 16 2 none] [(0,⟨.own 24,aB (A++B)⟩)] 1 (.tup []) [(0,⟨.own 24,aB (B++A)⟩)] 1:=by
 refine fV Tryz.f125 (by kernel_rfl) (by decide) ?_
 conv in aJ _ _=>(reduce;simp only[aH,seval])
 have lA:(A++B).length=32:=by simp;omega
 have t0:List.take 16 (aB (A++B))=aB A:=by rw[y5,List.take_left' hA]
 have t1:List.take 16 (List.drop 16 (aB (A++B)))=aB B:=by rw[nW,y5,List.drop_left' hA,List.take_of_length_le (by omega)]
 have p0:aF (aB (A++B)) 0 (aB B)=aB (B++B):=by
  unfold aF
  rw[List.take_zero,List.nil_append,Nat.zero_add,aA,hB,nW,List.drop_left' hA,show aB B++aB B=aB (B++B) by simp[aB]]
 have p1:aF (aB (B++B)) 16 (aB A)=aB (B++A):=by
  unfold aF
  rw[y5,List.take_left' hB,aA,hA,nW,List.drop_of_length_le (by simp;omega)]
  simp[aB]
 have lB:(B++B).length=32:=by simp;omega
 simp only[NV,↓NP,seval]
 rw[aL]
 refine a8 (fun _ _ _ _ _ h=>h) (aN _ _) 2 ?_
 simp only[hA,hB,lA,t0,t1,p0,p1,lB,NV,↓NP,Ei,cV,jC,touch,clear,eV,lZ,bC,seval]
 exact⟨[(0,0)],by simp[NF,seval]⟩
theorem YK (X:List UInt8) (hX:X.length=16):Fun Tryz.prog aO 86 [.slc 0 0 16 1 none,.int .i64 0] [(0,⟨.view,aB X⟩)] 1 (.tup [.val (.slice none 0 0),.int .i64 0]) [] 1:=by
 refine fV Tryz.f86 (by kernel_rfl) (by decide) ?_
 conv in aJ _ _=>(reduce;simp only[aH,seval])
 have fd:Fun Tryz.prog aO 123 [.int .i64 1,.int .i64 0,.fn 124 [] [.ptr 0 0,.ptr 1 0]] [(0,⟨.own 40,[.val (.slice none 0 0)]⟩),(1,⟨.view,[.slc 2 0 16 1 none]⟩),(2,⟨.view,aB X⟩)] 3 (.tup []) [(0,⟨.own 40,[.val (.slice none 0 0)]⟩)] 3:=by
  refine fV Tryz.f123 (by kernel_rfl) (by decide) ?_
  conv in aJ _ _=>(reduce;simp only[aH,seval])
  simp only[NV,↓NP,seval]
  rw[aL]
  refine a8 (fun _ _ _ _ _ h=>h) (aN _ _) 1 ?_
  simp only[NV,↓NP,seval]
  exact⟨[(0,0),(1,0),(2,0)],by simp[NF,seval]⟩
 have f0:Fun Tryz.prog aO 125 [.val (.slice none 0 0)] [] 0 (.tup []) [] 0:=by
  refine fV Tryz.f125 (by kernel_rfl) (by decide) ?_
  conv in aJ _ _=>(reduce;simp only[aH,seval])
  simp only[NV,↓NP,seval]
  rw[aL]
  refine a8 (fun _ _ _ _ _ h=>h) (aN _ _) 1 ?_
  simp only[NV,↓NP,seval]
  exact⟨[],by simp[NF]⟩
 simp only[NV,↓NP,seval]
 refine aI [(2,0),(1,0),(0,0)] fd ?_
 simp only[hX,NV,NJ,↓NP,seval]
 refine aI [] f0 ?_
 simp only[NV,NJ,↓NP,seval]
 exact⟨[(0,0)],by simp[NF]⟩
theorem VO (X:List UInt8) (hX:X.length=32):Fun Tryz.prog aO 86 [.slc 0 0 16 2 none,.int .i64 0] [(0,⟨.view,aB X⟩)] 1 (.tup [.slc 1 0 16 1 none,.int .i64 0]) [(1,⟨.own 24,aB (fK X 1 0)⟩)] 2:=by
 refine fV Tryz.f86 (by kernel_rfl) (by decide) ?_
 conv in aJ _ _=>(reduce;simp only[aH,seval])
 have fd:=SR X hX
 have l0:=eT X 1 0
 generalize fK X 1 0=R0 at *
 have fv:=Px (tS:=aO) R0 l0
 simp only[NV,↓NP,seval]
 refine aI [(2,0),(1,0),(0,0)] fd ?_
 simp only[hX,NV,NJ,↓NP,seval]
 refine aI [(3,0)] fv ?_
 simp only[NV,NJ,↓NP,seval]
 exact⟨[(0,0),(3,0)],by simp[NF,seval]⟩
theorem VP (X:List UInt8) (hX:X.length=32):Fun Tryz.prog aO 86 [.slc 0 0 16 2 none,.int .i64 1] [(0,⟨.view,aB X⟩)] 1 (.tup [.slc 1 0 16 1 none,.int .i64 0]) [(1,⟨.own 24,aB (fK X 0 0)⟩)] 2:=by
 refine fV Tryz.f86 (by kernel_rfl) (by decide) ?_
 conv in aJ _ _=>(reduce;simp only[aH,seval])
 have fd:=SS X hX
 have l0:=eT X 0 0
 generalize fK X 0 0=R0 at *
 have fv:=Px (tS:=aO) R0 l0
 simp only[NV,↓NP,seval]
 refine aI [(2,0),(1,0),(0,0)] fd ?_
 simp only[hX,NV,NJ,↓NP,seval]
 refine aI [(3,0)] fv ?_
 simp only[NV,NJ,↓NP,seval]
 exact⟨[(0,0),(3,0)],by simp[NF,seval]⟩
theorem VQ (X:List UInt8) (hX:X.length=64):Fun Tryz.prog aO 86 [.slc 0 0 16 4 none,.int .i64 0] [(0,⟨.view,aB X⟩)] 1 (.tup [.slc 1 0 16 2 none,.int .i64 0]) [(1,⟨.own 24,aB (fK X 1 0++fK X 2 1)⟩)] 2:=by
 refine fV Tryz.f86 (by kernel_rfl) (by decide) ?_
 conv in aJ _ _=>(reduce;simp only[aH,seval])
 have fd:=ST X hX
 have l0:=eT X 2 1
 generalize fK X 2 1=R0 at *
 have l1:=eT X 1 0
 generalize fK X 1 0=R1 at *
 have fv:=G5 (tS:=aO) R0 R1 l0 l1
 simp only[NV,↓NP,seval]
 refine aI [(2,0),(1,0),(0,0)] fd ?_
 simp only[hX,NV,NJ,↓NP,seval]
 refine aI [(3,0)] fv ?_
 simp only[NV,NJ,↓NP,seval]
 exact⟨[(0,0),(3,0)],by simp[NF,seval]⟩
theorem VR (X:List UInt8) (hX:X.length=64):Fun Tryz.prog aO 86 [.slc 0 0 16 4 none,.int .i64 1] [(0,⟨.view,aB X⟩)] 1 (.tup [.slc 1 0 16 2 none,.int .i64 0]) [(1,⟨.own 24,aB (fK X 0 0++fK X 2 1)⟩)] 2:=by
 refine fV Tryz.f86 (by kernel_rfl) (by decide) ?_
 conv in aJ _ _=>(reduce;simp only[aH,seval])
 have fd:=SU X hX
 have l0:=eT X 2 1
 generalize fK X 2 1=R0 at *
 have l1:=eT X 0 0
 generalize fK X 0 0=R1 at *
 have fv:=G5 (tS:=aO) R0 R1 l0 l1
 simp only[NV,↓NP,seval]
 refine aI [(2,0),(1,0),(0,0)] fd ?_
 simp only[hX,NV,NJ,↓NP,seval]
 refine aI [(3,0)] fv ?_
 simp only[NV,NJ,↓NP,seval]
 exact⟨[(0,0),(3,0)],by simp[NF,seval]⟩
theorem VS (X:List UInt8) (hX:X.length=64):Fun Tryz.prog aO 86 [.slc 0 0 16 4 none,.int .i64 2] [(0,⟨.view,aB X⟩)] 1 (.tup [.slc 1 0 16 2 none,.int .i64 0]) [(1,⟨.own 24,aB (fK X 3 0++fK X 0 1)⟩)] 2:=by
 refine fV Tryz.f86 (by kernel_rfl) (by decide) ?_
 conv in aJ _ _=>(reduce;simp only[aH,seval])
 have fd:=SW X hX
 have l0:=eT X 0 1
 generalize fK X 0 1=R0 at *
 have l1:=eT X 3 0
 generalize fK X 3 0=R1 at *
 have fv:=G5 (tS:=aO) R0 R1 l0 l1
 simp only[NV,↓NP,seval]
 refine aI [(2,0),(1,0),(0,0)] fd ?_
 simp only[hX,NV,NJ,↓NP,seval]
 refine aI [(3,0)] fv ?_
 simp only[NV,NJ,↓NP,seval]
 exact⟨[(0,0),(3,0)],by simp[NF,seval]⟩
theorem VT (X:List UInt8) (hX:X.length=64):Fun Tryz.prog aO 86 [.slc 0 0 16 4 none,.int .i64 3] [(0,⟨.view,aB X⟩)] 1 (.tup [.slc 1 0 16 2 none,.int .i64 0]) [(1,⟨.own 24,aB (fK X 2 0++fK X 0 1)⟩)] 2:=by
 refine fV Tryz.f86 (by kernel_rfl) (by decide) ?_
 conv in aJ _ _=>(reduce;simp only[aH,seval])
 have fd:=SY X hX
 have l0:=eT X 0 1
 generalize fK X 0 1=R0 at *
 have l1:=eT X 2 0
 generalize fK X 2 0=R1 at *
 have fv:=G5 (tS:=aO) R0 R1 l0 l1
 simp only[NV,↓NP,seval]
 refine aI [(2,0),(1,0),(0,0)] fd ?_
 simp only[hX,NV,NJ,↓NP,seval]
 refine aI [(3,0)] fv ?_
 simp only[NV,NJ,↓NP,seval]
 exact⟨[(0,0),(3,0)],by simp[NF,seval]⟩
theorem Py (X:List UInt8):(X.length=32→fK X 1 0=kY 1 X 0∧fK X 0 0=kY 1 X 1) ∧
  (X.length=64→fK X 1 0++fK X 2 1=kY 2 X 0∧fK X 0 0++fK X 2 1=kY 2 X 1∧fK X 3 0++fK X 0 1=kY 2 X 2∧fK X 2 0++fK X 0 1=kY 2 X 3):=by
 have a1:∀ {n:Nat} {Y:List UInt8},Y.length=n→Y.take n=Y:=fun h=>List.take_of_length_le (by omega)
 refine⟨fun h=>?_,fun h=>?_⟩
 ·have b1:(X.drop 16).take 16=X.drop 16:=a1 (by simp;omega)
  constructor <;> simp[kY,fK,b1]
 ·have b1:(X.drop 32).take 32=X.drop 32:=a1 (by simp;omega)
  have b2:((X.take 32).drop 16)=(X.drop 16).take 16:=by rw[List.drop_take]
  have b3:(X.drop 48).take 16=X.drop 48:=a1 (by simp;omega)
  refine⟨?_,?_,?_,?_⟩ <;> simp[kY,fK,b1,b2,b3,List.take_take,List.drop_drop]
theorem h86 (X:List UInt8) (h i:Nat) (hh:h≤2) (hX:X.length=16 * 2 ^ h) (hi:i < 2 ^ h) :
  Fun Tryz.prog aO 86 [.slc 0 0 16 (2 ^ h) none,.int .i64 (i:Int)] [(0,⟨.view,aB X⟩)] 1 (.tup [AN 1 16 h,.int .i64 0]) (v7 1 24 (aB (kY h X i)) [] h) (s9 1 h):=by
 obtain⟨p1,p2⟩:=Py X
 obtain rfl|rfl|rfl:h=0∨h=1∨h=2:=by omega
 ·obtain rfl:i=0:=by simpa using hi
  exact YK X hX
 ·obtain⟨q0,q1⟩:=p1 hX
  obtain rfl|rfl:i=0∨i=1:=by omega
  ·rw[← q0];exact VO X hX
  ·rw[← q1];exact VP X hX
 ·obtain⟨q0,q1,q2,q3⟩:=p2 hX
  obtain rfl|rfl|rfl|rfl:i=0∨i=1∨i=2∨i=3:=by omega
  ·rw[← q0];exact VQ X hX
  ·rw[← q1];exact VR X hX
  ·rw[← q2];exact VS X hX
  ·rw[← q3];exact VT X hX
open Go.RowKit Go.Shelf
attribute [local go_sem] Oper.semAt_some
abbrev Qu:={ d:List UInt8 // d.length=16 }
def vb (d:List UInt8):List Value:=d.map fun c=>Value.int .u8 (c.toNat:Int)
def vD (x:Qu):Value:=.agg (vb x.1).toArray
structure Bel (x n₀:Nat) (A B:World):Prop where
 os:B.os=A.os
 tape:B.tape=A.tape
 output:B.output=A.output
 size:A.heap.size≤B.heap.size
 block:∀ k,k < n₀→k≠x→B.heap[k]?=A.heap[k]?
theorem Bm {f:FuncId} {args:List SV} {r:SV} (F:Fun Tryz.prog aO f args [] 0 r [] 0) {w:World} {vals:List Value} (hT:wA aO w) (hv:SV.isL Ep args vals) (hf:r.flat=true) :
  Calls Tryz.prog f vals.toArray w fun e w'=>∃ x,e=.returned x∧r.is Ep x∧w.grownBy w' none:=by
 refine (F.run Ep w vals ?_ ?_ hv).mono ?_
 ·refine⟨fun i B h=>by simp at h,fun i B j B' L L' b h=>by simp at h,fun i _=>rfl,fun i B L b h=>by simp at h,Nat.le_refl _,fun _ _ _=>rfl,fun _ _=>rfl,rfl,rfl⟩
 ·exact⟨hT,fun g cs _ ho=>by obtain⟨i,B,L,h,_⟩:=ho;simp at h⟩
 ·rintro e w' ⟨x,ρ',rfl,_,h2,h3⟩
  refine⟨x,rfl,SV.is_flat _ _ hf h2,⟨congrArg Prod.fst h3.side.1,congrArg Prod.snd h3.side.1,h3.side.2,h3.size,fun b hb _=>h3.frame b hb (fun ho=>by obtain⟨i,B,L,h,_⟩:=ho;simp at h)⟩⟩
theorem VU {d:List UInt8} {x:Value} (h:(SV.agg (aB d)).is Ep x):x=.agg (vb d).toArray:=by
 simp only[SV.is] at h
 obtain⟨l,h1,_,rfl⟩:=h
 have:∀ (d:List UInt8) (l:List Value),SV.isL Ep (aB d) l→l=vb d:=by
  intro d
  induction d with
  | nil=>intro l h;simpa [aB,SV.isL,vb] using h
  | cons c d ih=>
   intro l h
   simp only[aB,List.map_cons,SV.isL,SV.byte,SV.is] at h
   obtain⟨y,ys,rfl,rfl,h⟩:=h
   rw[ih ys h];rfl
 rw[this d l h1]
theorem A8 {w w':World} (h:wA aO w) (hb:∀ k,k < 2→w'.heap[k]?=w.heap[k]?):wA aO w':=by
 intro g cs hm
 have hg:g < 2:=by
  simp only[aO,List.mem_cons,List.not_mem_nil,or_false] at hm
  rcases hm with hm|hm <;> (cases hm;decide)
 obtain⟨h1,h2⟩:=h g cs hm
 have hb:=hb g hg
 refine⟨?_,fun j v hj=>?_⟩
 ·have:w.heap[g]?≠none:=by rw[Array.getElem?_eq_getElem h1];simp
  rw[← hb] at this
  rcases Nat.lt_or_ge g w'.heap.size with q|q
  ·exact q
  ·exact absurd (Array.getElem?_eq_none q) this
 ·obtain⟨x,q1,q2,q3⟩:=h2 j v hj
  exact⟨x,by rw[fU hb];exact q1,q2,q3⟩
def YL (seed:List UInt8) (k:Nat):Qu:=⟨Pv seed k,CU seed k⟩
def Mf (seed:List UInt8) (n:Nat):List Qu:=(List.range n).map (YL seed)
theorem Pz (seed:List UInt8) (n:Nat):Mf seed (n+1)=Mf seed n++[YL seed n]:=by simp[Mf,List.range_succ]
theorem LP (seed:List UInt8) (n:Nat):(Mf seed n).length=n:=by simp[Mf]
theorem QA (seed:List UInt8) (h N:Nat) (hN:2 ^ h=N) (hh:h≤6) (hs:seed.length≤64) (l Bh Bs x₀ n₀:Nat) (hn₀:2≤n₀) (hx₀:2≤x₀) (hxh:Bh≠x₀) (hxs:Bs≠x₀) (J Jx:List Qu→World→Prop) (W:World) (hT:wA aO W)
  (hJ:AbidesFrom W.heap.size J)
  (hY:∀ pre x W,J pre W→pre.length < N→YieldAt Fence.wide 10 Tryz.prog l #[vD x] W fun e W'=>
   (e=.returned (.bool true)∧J (pre++[x]) W'∧Bel x₀ n₀ W W')∨(e=.returned (.bool false)∧Jx (pre++[x]) W'))
  (hBh:Bh < n₀) (hBs:Bs < n₀) (hch:W.cell? ⟨Bh,0,none⟩=some (.int .i64 (h:Int))) (hcs:W.cell? ⟨Bs,0,none⟩=some (.string ⟨seed.toArray⟩)) (hsz:n₀≤W.heap.size) (h0:J [] W) :
  CallsIn Fence.wide 11 Tryz.prog 147 #[.func (.yield l) #[] #[],.pointer (some ⟨Bh,0,none⟩),.pointer (some ⟨Bs,0,none⟩)] W fun e W'=>(∃ v,e=.returned v) ∧
   ((∃ ys,ys=Mf seed N∧J ys W')∨(∃ pre,True∧Jx pre W')):=by
 refine callsIn_of_wp Tryz.func147 rfl trivial ?_ rfl
 simp only[Tryz.ntmps147,List.size_toArray,Array.replicate_succ,Array.replicate_zero,List.push_toArray,List.append_toArray,BB,seval]
 gi_wp2
 have p1:N≤64:=by have:=(y6 hh).1;unfold P2 at this;omega
 have hw:RowKit.wrap64 ((2:Int) ^ h)=(N:Int):=by
  have:h=0∨h=1∨h=2∨h=3∨h=4∨h=5∨h=6:=by omega
  rcases this with rfl|rfl|rfl|rfl|rfl|rfl|rfl <;> (subst hN;unfold RowKit.wrap64;decide)
 rw[hw]
 gi_loopw [7] (fun p wr=>∃ k:Nat,p=.int .i64 (k:Int)∧k≤N∧J (Mf seed k) wr∧Bel x₀ n₀ W wr) (fun p _=>match p with|.int _ n=>N - n.toNat|_=>0)
 case atStart=>
  exact⟨0,rfl,Nat.zero_le _,h0,⟨rfl,rfl,rfl,Nat.le_refl _,fun _ _ _=>rfl⟩⟩
 case round=>
  obtain⟨k,rfl,hk,hJk,hB⟩:=hrel
  by_cases hlt:k < N
  ·have hcl:(k:Int) < (N:Int):=by omega
   have wi:IntKind.i64.wrap ((k:Int)+1)=((k+1:Nat):Int):=by rw[aD (by omega) (by omega)];omega
   have cS:wr.cell? ⟨Bs,0,none⟩=some (.string ⟨seed.toArray⟩):=(fU (hB.block Bs hBs hxs)).trans hcs
   have hT1:wA aO wr:=A8 hT fun k hk=>hB.block k (by omega) (by omega)
   gi_wp2_with (first
    | (refine⟨trivial,?_⟩
       gi_at_call 88
       refine (callsIn_wide.2 (Bm (h88 seed (k:Int) hs) (vals:=[.string ⟨seed.toArray⟩,.int .i64 (k:Int)]) hT1 (by simp[SV.isL,SV.is]) rfl)).mono ?_
       rintro e w1 ⟨x,rfl,hx,hg1⟩
       obtain rfl:x=.string ⟨(gM seed (k:Int)).toArray⟩:=by simpa [SV.is] using hx
       have hT2:wA aO w1:=A8 hT1 fun k hk=>hg1.block k (by have:=hB.size;omega) (by simp))
    | (refine⟨trivial,?_⟩
       gi_at_call 148
       refine (callsIn_wide.2 (Bm (AAi (gM seed (k:Int)) (by rw[yK];decide)) (vals:=[.string ⟨(gM seed (k:Int)).toArray⟩]) hT2 (by simp[SV.isL,SV.is]) (by simp only[SV.flat,aX]))).mono ?_
       rintro e w2 ⟨x,rfl,hx,hg2⟩
       obtain rfl:=VU hx
       have hJ2:J (Mf seed k) w2:=hJ _ _ _ none (hJ _ _ _ none hJk hg1 (by simp)) hg2 (by simp)
       obtain⟨fn,tmps,assign,body,hy,hR⟩:=hY (Mf seed k) (YL seed k) w2 hJ2 (by rw[LP];exact hlt)
       dsimp only[vD,YL,Pv] at hy))
   refine hR.mono ?_
   rintro e W3 (⟨rfl,hJ3,hk3⟩|⟨rfl,hJx3⟩)
   ·gi_wp2
    go_roundw
    case rel=>
     refine⟨k+1,by simp,by omega,by rw[Pz];exact hJ3,⟨hk3.os.trans (hg2.os.trans (hg1.os.trans hB.os)),hk3.tape.trans (hg2.tape.trans (hg1.tape.trans hB.tape)),hk3.output.trans (hg2.output.trans (hg1.output.trans hB.output)),?_,fun q hq hqx=>?_⟩⟩
     ·have:=hB.size;have:=hg1.size;have:=hg2.size;have:=hk3.size;omega
     ·have:=hB.size;have:=hg1.size
      rw[hk3.block q hq hqx,hg2.block q (by omega) (by simp),hg1.block q (by omega) (by simp),hB.block q hq hqx]
    case measure=>
     show N - ((k:Int)+1).toNat < N - (k:Int).toNat
     omega
   ·gi_wp2
    refine bodyPost_ret (results_none rfl _ _ _) rfl ?_
    first
     | exact⟨⟨_,rfl⟩,.inr ⟨_,trivial,hJx3⟩⟩
     | exact⟨⟨_,rfl⟩,.inr ⟨_,hJx3⟩⟩
  ·obtain rfl:k=N:=by omega
   gi_wp2
   go_end0
   exact⟨⟨_,rfl⟩,.inl ⟨_,rfl,hJk⟩⟩
theorem SZ (seed:List UInt8) (h:Int) (w:World) :
  CallsIn Fence.wide 11 Tryz.prog 118 #[.string ⟨seed.toArray⟩,.int .i64 h] w fun e w'=>e=.returned (.func (.func 147) #[] #[.pointer (some ⟨w.heap.size+1,0,none⟩),.pointer (some ⟨w.heap.size,0,none⟩)]) ∧
   w'=(w.alloc (.cells #[.string ⟨seed.toArray⟩] 9)).alloc (.cells #[.int .i64 h] 3):=by
 refine callsIn_of_wp Tryz.func118 rfl trivial ?_ rfl
 simp only[Tryz.ntmps118,List.size_toArray,Array.replicate_succ,Array.replicate_zero,List.push_toArray,List.append_toArray,BB,seval]
 gi_wp2
 go_ret
 exact⟨rfl,rfl⟩
theorem Bel.refl (x n:Nat) (w:World):Bel x n w w:=⟨rfl,rfl,rfl,Nat.le_refl _,fun _ _ _=>rfl⟩
theorem Bel.trans {x n:Nat} {A B C:World} (h:Bel x n A B) (k:Bel x n B C):Bel x n A C:=
 ⟨k.os.trans h.os,k.tape.trans h.tape,k.output.trans h.output,Nat.le_trans h.size k.size,fun i hi hx=>(k.block i hi hx).trans (h.block i hi hx)⟩
theorem Bel.grown {x n:Nat} {A B:World} {row:Option Nat} (h:A.grownBy B row) (hn:n≤A.heap.size) (hr:∀ r,row=some r→n≤r∨r=x):Bel x n A B:=
 ⟨h.os,h.tape,h.output,h.size,fun k hk hx=>h.block k (by omega) (fun e=>by rcases hr k e.symm with q|q <;> omega)⟩
def Qv (l:List Qu):List Value:=(l.map fun x=>vb x.1).flatten
theorem Tryz.info24:(Tryz.prog.info? 24).map (fun i=>(i.zero,i.size,i.bytes))=some (some (.agg (Array.replicate 16 (.int .u8 0))),16,16):=by kernel_rfl
theorem S3 (l:List Qu):(Qv l).length=l.length * 16:=by
 unfold Qv
 induction l with
 | nil=>rfl
 | cons x l ih=>
  have:=x.2
  simp only[List.map_cons,List.flatten_cons,List.length_append,vb,List.length_map,List.length_cons] at ih ⊢
  omega
theorem QB (l:List Qu) (x:Qu):Qv (l++[x])=Qv l++vb x.1:=by simp[Qv]
theorem QC (d:List UInt8):(vb d).toArray.all (·.oneCell')=true:=by simp[vb,Value.oneCell']
theorem VV {α:Type} (l:List α) (h:l.length=16):∃ c0 c1 c2 c3 c4 c5 c6 c7 c8 c9 c10 c11 c12 c13 c14 c15,l=[c0,c1,c2,c3,c4,c5,c6,c7,c8,c9,c10,c11,c12,c13,c14,c15]:=by
 match l,h with
 | [c0,c1,c2,c3,c4,c5,c6,c7,c8,c9,c10,c11,c12,c13,c14,c15],_=>exact⟨_,_,_,_,_,_,_,_,_,_,_,_,_,_,_,_,rfl⟩
theorem S4 (W:World) (xs:List Value) (t:TypeId) (j:Nat) (u:Value) (h:xs[j]?=some u):(W.alloc (.cells xs.toArray t)).cell? ((⟨W.heap.size,0,none⟩:Addr).add j)=some u:=by
 have hadd:(⟨W.heap.size,0,none⟩:Addr).add j=⟨W.heap.size,j,none⟩:=by unfold Addr.add;split <;> simp_all
 rw[hadd,cell_of_row _ _ j xs.toArray t (0,0) (heap_alloc_last W _)]
 simpa using h
theorem Jq (seed:List UInt8) (h N:Nat) (hN:2 ^ h=N) (hh:h≤6) (hs:seed.length≤64) (b:Nat) (w:World) (hT:wA aO w) (h2:2≤b) (hw:w.heap.size=b+3)
  (bS:Boxed w (b+1) 9 (.string ⟨seed.toArray⟩)) (bH:Boxed w (b+1+1) 3 (.int .i64 (h:Int))) :
  SeqStopsK Fence.wide 11 Tryz.prog 147 #[.pointer (some ⟨b+1+1,0,none⟩),.pointer (some ⟨b+1,0,none⟩)] (fun x:Qu=>#[vD x]) (Bel b (b+3)) (fun ys=>ys=Mf seed N) (fun _=>True) N w:=fun l J Jx W hW hJ _ hY h0=>
 QA seed h N hN hh hs l (b+1+1) (b+1) b (b+3) (by omega) h2 (by omega) (by omega) J Jx W (A8 hT fun k hk=>hW.block k (by omega)) hJ hY (by omega) (by omega)
  ((hW.cell (p:=⟨b+1+1,0,none⟩) (by show b+1+1 < _;omega)).trans bH.cell) ((hW.cell (p:=⟨b+1,0,none⟩) (by show b+1 < _;omega)).trans bS.cell) (by have:=hW.size;omega) h0
theorem Mg (seed:List UInt8) (h N:Nat) (hN:2 ^ h=N) (hh:h≤6) (hs:seed.length≤64) (w:World) (hT:wA aO w) (h2:2≤w.heap.size) :
  CallsIn Fence.wide 12 Tryz.prog 82 #[.string ⟨seed.toArray⟩,.int .i64 (h:Int)] w fun e W'=>∃ v,e=.returned v∧W'.ownsRow w.heap.size 24 16 v N (Qv (Mf seed N))∧Below w.heap.size w W':=by
 have p1:N≤64:=by have:=(y6 hh).1;unfold P2 at this;omega
 obtain⟨i0,hi,Vn,hz1,hz2⟩:=info_parts Tryz.info24
 refine callsIn_of_wp_marks Tryz.func82 rfl trivial ?_ rfl
 simp only[Tryz.ntmps82,List.size_toArray,Array.replicate_succ,Array.replicate_zero,List.push_toArray,List.append_toArray,BB,seval]
 gi_wp2_with (refine⟨trivial,?_⟩;gi_at_call 118;refine (SZ seed (h:Int) _).mono ?_;rintro e w' ⟨rfl,rfl⟩)
 have bO:=((Boxed.new w 40 (.slice none 0 0)).alloc (.cells #[.string ⟨seed.toArray⟩] 9)).alloc (.cells #[.int .i64 (h:Int)] 3)
 have bS:=(Boxed.new (w.alloc (.cells #[.slice none 0 0] 40)) 9 (.string ⟨seed.toArray⟩)).alloc (.cells #[.int .i64 (h:Int)] 3)
 have bH:=Boxed.new ((w.alloc (.cells #[.slice none 0 0] 40)).alloc (.cells #[.string ⟨seed.toArray⟩] 9)) 3 (.int .i64 (h:Int))
 simp only[World.size_alloc] at bO bS bH
 have hB0:Below w.heap.size w (((w.alloc (.cells #[.slice none 0 0] 40)).alloc (.cells #[.string ⟨seed.toArray⟩] 9)).alloc (.cells #[.int .i64 (h:Int)] 3)):=(((Below.refl _ w).alloc (Nat.le_refl _) _).alloc (by simp) _).alloc (by simp;omega) _
 have hsz:(((w.alloc (.cells #[.slice none 0 0] 40)).alloc (.cells #[.string ⟨seed.toArray⟩] 9)).alloc (.cells #[.int .i64 (h:Int)] 3)).heap.size=w.heap.size+3:=by simp
 obtain⟨W0,hW0⟩:∃ W0,((w.alloc (.cells #[.slice none 0 0] 40)).alloc (.cells #[.string ⟨seed.toArray⟩] 9)).alloc (.cells #[.int .i64 (h:Int)] 3)=W0:=⟨_,rfl⟩
 rw[hW0] at bO bS bH hB0 hsz ⊢
 clear hW0
 refine wpIn_rangeFunc_ownH rfl (by decide) (gf:=147) (lb:=#[.pointer (some ⟨w.heap.size+1+1,0,none⟩),.pointer (some ⟨w.heap.size+1,0,none⟩)]) rfl trivial (enters_of Tryz.func147 (by kernel_rfl) rfl)
  (Jq seed h N hN hh hs w.heap.size W0 (A8 hT fun k hk=>hB0.block k (by omega)) h2 hsz bS bH) Bel.trans
  (fun W l o o' hl hW _ _=>Bel.grown (grownBy_putObj' W l o') (by have:=(Array.getElem?_eq_some_iff.1 hW).1;omega) (fun r e=>by cases e;omega)) (Below.refl _ _) (fun _=>rfl)
  (fun pre W=>(((∃ v,Boxed W w.heap.size 40 v∧W.ownsRow w.heap.size 24 16 v pre.length (Qv pre)∧True)∧Boxed W (w.heap.size+1) 9 (.string ⟨seed.toArray⟩))∧Boxed W (w.heap.size+1+1) 3 (.int .i64 (h:Int)))∧Below w.heap.size w W)
  (fun _ _ _=>False)
  (OwnFrom.and (OwnFrom.and (OwnFrom.and (Own.from (holdsRow_own w.heap.size w.heap.size 40 24 16 (fun pre:List Qu=>pre.length) (fun pre=>Qv pre) (fun _ _=>True)) _) (Own.from (boxed_own _ _ _) _)) (Own.from (boxed_own _ _ _) _)) (ownFrom_below (Nat.le_refl _) (by omega)))
  (fun _ _ _ _ _ hs _ _=>hs)
  ⟨⟨⟨⟨_,bO,World.ownsRow_nil _ _ _ _,trivial⟩,bS⟩,bH⟩,hB0⟩
  (fun x a' W=>∃ Bx,w.heap.size+3≤Bx∧W.heap[Bx]?=some (.cells (vb x.1).toArray 24)∧a'={ tmps:=#[.string ⟨seed.toArray⟩,.int .i64 (h:Int),undef,undef,.slice none 0 0,.pointer (some ⟨w.heap.size,0,none⟩),.pointer (some ⟨Bx,0,none⟩),.string ⟨seed.toArray⟩,.int .i64 (h:Int),.func (.func 147) #[] #[.pointer (some ⟨w.heap.size+1+1,0,none⟩),.pointer (some ⟨w.heap.size+1,0,none⟩)],vD x,undef,undef,undef,undef,undef],defers:=[] })
  (fun x a' _ X Y row hs hg hr=>by
   obtain⟨Bx,h1,h2,h3⟩:=hs
   refine⟨Bx,h1,(hg.block Bx (Array.getElem?_eq_some_iff.1 h2).1 (fun e=>?_)).trans h2,h3⟩
   obtain⟨_,o,ho,hc⟩:=hr Bx e.symm
   rw[h2] at ho;cases ho;cases hc)
  ?assign ?body ?done ?stop
 case assign=>
  rintro l pre x W K ⟨⟨⟨⟨v,bO1,hr1,_⟩,bS1⟩,bH1⟩,hB1⟩ hK
  have hv:(vb x.1).toArray.size=16:=by simp[vb,x.2]
  dsimp only[vD] at hK ⊢
  gi_wp2
  have hst:=run_storeCells_new (P:=Tryz.prog) W 24 (Array.replicate 16 (.int .u8 0)) (vb x.1).toArray (by rw[hi,Option.map_some,hz1,hv]) (by simp[hv]) (QC x.1)
  simp only[Array.replicate_succ,Array.replicate_zero,List.push_toArray,List.nil_append,List.cons_append] at hst
  rw[hst]
  gi_wp2
  exact hK _ _ ((KeepsOthers.alloc _ _).from _) (Bel.grown (World.grownBy_alloc _ _ none) (by have:=hB1.size;have:=bH1.lt;omega) (by simp)) ⟨⟨⟨⟨v,bO1.alloc _,hr1.alloc _,trivial⟩,bS1.alloc _⟩,bH1.alloc _⟩,hB1.alloc hB1.size _⟩ ⟨W.heap.size,by have:=bH1.lt;omega,heap_alloc_last W _,rfl⟩
 case body=>
  rintro l pre x a' W hl ⟨r,hr⟩ ⟨⟨⟨⟨v,bO1,hr1,_⟩,bS1⟩,bH1⟩,hB1⟩ ⟨Bx,hBx,bX,rfl⟩ hlt
  have cO:=bO1.cell
  have hpl:=S3 pre
  have hv:(vb x.1).length=16:=by simp[vb,x.2]
  have h1:=QC x.1
  have hsn:=QB pre x
  have hmx:(64:Nat)+1≤maxLen:=by decide
  dsimp only[vD]
  generalize vb x.1=xs at *
  obtain⟨c0,c1,c2,c3,c4,c5,c6,c7,c8,c9,c10,c11,c12,c13,c14,c15,rfl⟩:=VV xs hv
  have k0:W.cell? ⟨Bx,0,none⟩=some c0:=by simp[World.cell?,bX]
  have k1:W.cell? ⟨Bx,1,none⟩=some c1:=by simp[World.cell?,bX]
  have k2:W.cell? ⟨Bx,2,none⟩=some c2:=by simp[World.cell?,bX]
  have k3:W.cell? ⟨Bx,3,none⟩=some c3:=by simp[World.cell?,bX]
  have k4:W.cell? ⟨Bx,4,none⟩=some c4:=by simp[World.cell?,bX]
  have k5:W.cell? ⟨Bx,5,none⟩=some c5:=by simp[World.cell?,bX]
  have k6:W.cell? ⟨Bx,6,none⟩=some c6:=by simp[World.cell?,bX]
  have k7:W.cell? ⟨Bx,7,none⟩=some c7:=by simp[World.cell?,bX]
  have k8:W.cell? ⟨Bx,8,none⟩=some c8:=by simp[World.cell?,bX]
  have k9:W.cell? ⟨Bx,9,none⟩=some c9:=by simp[World.cell?,bX]
  have k10:W.cell? ⟨Bx,10,none⟩=some c10:=by simp[World.cell?,bX]
  have k11:W.cell? ⟨Bx,11,none⟩=some c11:=by simp[World.cell?,bX]
  have k12:W.cell? ⟨Bx,12,none⟩=some c12:=by simp[World.cell?,bX]
  have k13:W.cell? ⟨Bx,13,none⟩=some c13:=by simp[World.cell?,bX]
  have k14:W.cell? ⟨Bx,14,none⟩=some c14:=by simp[World.cell?,bX]
  have k15:W.cell? ⟨Bx,15,none⟩=some c15:=by simp[World.cell?,bX]
  gi_wp2_with (gi_at_builtin;refine wpListIn_append_own _ rfl _ _ 40 rfl w.heap.size 24 i0 _ 16 16 Tryz.underlying40 hi Vn hz1 hz2 rfl (by decide) _ _ _ rfl (hr1.alloc _) ⟨W.heap.size,0,none⟩ 1 1 [c0,c1,c2,c3,c4,c5,c6,c7,c8,c9,c10,c11,c12,c13,c14,c15] rfl rfl (fun j u hu=>S4 W [c0,c1,c2,c3,c4,c5,c6,c7,c8,c9,c10,c11,c12,c13,c14,c15] 24 j u hu) (fun u hu=>by simpa using List.all_eq_true.1 (by simpa only [List.all_toArray] using h1) u hu) (by omega) (by omega) (by have:=hB1.size;simp;omega) ?_;intro v' w1 hown' hgrow _;obtain⟨g',cap',rfl⟩:=ownsRow_succ hown';obtain⟨hv1,hv2,hr2,hk2,hb2⟩:=bO1.appended (by decide) hr1 hB1.size (Nat.le_refl _) hown' hgrow;have hc1:=hv1.cell;have hf1:=hv1.frozen)
  have kS:=((bS1.alloc _).kept hgrow (bS1.not_row (by decide) hr1)).other (B':=w.heap.size) (by omega) (.slice (some { block:=g',off:=0 }) (pre.length+1) cap')
  have kH:=((bH1.alloc _).kept hgrow (bH1.not_row (by decide) hr1)).other (B':=w.heap.size) (by omega) (.slice (some { block:=g',off:=0 }) (pre.length+1) cap')
  refine⟨hk2.from _,⟨hb2.os,hb2.tape,hb2.output,hb2.size,fun k hk hx=>?_⟩,⟨⟨⟨⟨_,hv2,by rw[hsn];simpa using hr2,trivial⟩,kS⟩,kH⟩,hB1.trans hb2⟩⟩
  rcases Nat.lt_or_ge k w.heap.size with q|q
  ·exact hb2.block k q
  ·obtain rfl|rfl:k=w.heap.size+1∨k=w.heap.size+1+1:=by omega
   ·exact (show _=_ from kS).trans (show _=_ from bS1).symm
   ·exact (show _=_ from kH).trans (show _=_ from bH1).symm
 case done=>
  rintro D zs W hD rfl ⟨⟨⟨⟨v,bO1,hr1,_⟩,bS1⟩,bH1⟩,hB1⟩ hK
  have hc:=bO1.cell
  gi_wp2
  refine⟨by simp,.inl ⟨_,_,rfl,run_takeDeferred hK,?_⟩⟩
  exact⟨_,results_tmp rfl _ _ _,v,rfl,by rw[LP] at hr1;exact ownsRow_putObj hr1 _ hK rfl,hB1.trans (belowK_b (w:=w) (Nat.le_refl _) W D _ _ (by omega) hK rfl rfl)⟩
 case stop=>
  rintro D c pre W _ _ h _
  exact h.elim
theorem S5 (seed:List UInt8) (h:Nat):Qv (Mf seed (2 ^ h))=vb (eS seed h):=by
 simp[Qv,Mf,YL,eS,jZ,vb,List.map_map,Function.comp_def,List.map_flatten]
theorem h82 (seed:List UInt8) (h:Nat) (hh:h≤6) (hs:seed.length≤64):Fun Tryz.prog aO 82 [.str seed,.int .i64 (h:Int)] [] 0 (.slc 0 0 16 (2 ^ h) none) [(0,⟨.own 24,aB (eS seed h)⟩)] 1:=by
 refine⟨by kernel_rfl,Nat.le_add_left _ _,?_⟩
 intro ρ w vals hM hC hv
 obtain rfl:vals=[.string ⟨seed.toArray⟩,.int .i64 (h:Int)]:=by simpa [SV.isL,SV.is] using hv
 have h2:2≤w.heap.size:=by
  have:=(hC.tab 1 _ (by simp only[pM,aO,List.mem_cons];right;left;rfl)).1
  show 1 < w.heap.size
  exact this
 refine (callsIn_wide.1 (Mg seed h (2 ^ h) rfl hh hs w hC.tab h2)).mono ?_
 rintro e W' ⟨v,rfl,⟨hl,hr⟩,hB⟩
 have hN:0 < 2 ^ h:=Nat.two_pow_pos h
 rcases hr with⟨_,h0⟩|⟨g,cap,cur,rfl,hg,hb,hc,hm,hcs,hx⟩
 ·omega
 ·rw[S5] at hx hl
  have hlv:=xL seed h
  have hlt:=(Array.getElem?_eq_some_iff.1 hb).1
  refine⟨_,fun i=>if i=0 then some ⟨some g,0,cap * 16⟩ else none,rfl,?_,?_,?_⟩
  ·intro i L hi
   have:=hM.fresh i (Nat.zero_le _)
   rw[this] at hi;cases hi
  ·refine⟨⟨some g,0,cap * 16⟩,some ⟨g,0,none⟩,by simp,?_,.inl rfl⟩
   simp
  ·have hmem:∀ i B,(i,B)∈[((0:Nat),(⟨.own 24,aB (eS seed h)⟩:Blk))]→i=0∧B=⟨.own 24,aB (eS seed h)⟩:=by
    intro i B hi
    simpa using hi
   refine⟨?_,?_,?_,?_,hB.size,fun b hb1 _=>hB.block b hb1,fun i hi=>absurd hi (Nat.not_lt_zero _),by rw[hB.os,hB.tape];exact⟨rfl,hB.output⟩⟩
   ·intro i B hi
    obtain⟨rfl,rfl⟩:=hmem i B hi
    refine⟨⟨some g,0,cap * 16⟩,by simp,hlt,?_,rfl,?_,cur,(0,0),hb,hcs,.inl rfl⟩
    ·intro j u hj
     simp only[aB,List.getElem?_map,Option.map_eq_some_iff] at hj
     obtain⟨c,hc1,rfl⟩:=hj
     have hq:cur.toList[j]?=some (Value.int .u8 (c.toNat:Int)):=by
      have h3:(cur.toList.take (2 ^ h * 16))[j]?=some (Value.int .u8 (c.toNat:Int)):=by rw[hx];simp[vb,hc1]
      rw[List.getElem?_take] at h3
      split at h3
      ·exact h3
      ·cases h3
     refine⟨_,(gW hb).trans (by simpa using hq),rfl,rfl⟩
    ·rw[aA,hlv]
     show _≤cap * 16
     omega
   ·intro i B j B' L L' b hi hj hne
    exact absurd ((hmem i B hi).1.trans (hmem j B' hj).1.symm) hne
   ·intro i hi
    have:i≠0:=by omega
    simp[this]
   ·intro i B L b hi _ hL hb1
    obtain⟨rfl,rfl⟩:=hmem i B hi
    simp only[if_true,Option.some.injEq] at hL
    subst hL
    cases hb1
    exact .inl hg
theorem YM:Fun Tryz.prog tS 90 [.val (.slice none 0 0)] [] 0 (.slc 0 0 1 (aP 0).length none) [(0,⟨.own 5,aB (aP 0)⟩)] 1:=by
 refine fV Tryz.f90 (by kernel_rfl) (by decide) ?_
 conv in aJ _ _=>(reduce;simp only[aH,seval])
 have fi:=f34 (tS:=tS) 0
 generalize aP 0=E at *
 simp only[NV,↓NP,seval]
 refine aI [] fi ?_
 simp only[NV,NJ,↓NP,seval]
 rw[aL]
 refine a8 (fun _ _ _ _ _ h=>h) (aN _ _) 1 ?_
 simp only[NV,↓NP,seval]
 exact⟨[(0,0)],by simp[NF,seval]⟩
theorem YN (A:List UInt8) (hA:A.length=16):Fun Tryz.prog tS 90 [.slc 0 0 16 1 none] [(0,⟨.view,aB A⟩)] 1 (.slc 1 0 1 (aP 1++A).length none) [(1,⟨.own 5,aB (aP 1++A)⟩)] 2:=by
 refine fV Tryz.f90 (by kernel_rfl) (by decide) ?_
 conv in aJ _ _=>(reduce;simp only[aH,seval])
 have fi:=f34 (tS:=tS) 1
 have ap:∀ E:List UInt8,aB E++aB A=aB (E++A):=fun E=>by simp[aB]
 have le:(aP 1++A).length=(aP 1).length+16:=by rw[List.length_append,hA]
 have lE:=aS 1
 rw[le]
 generalize aP 1=E at *
 have c:E.length≤1099511627760:=by omega
 simp only[NV,↓NP,seval]
 refine aI [] fi ?_
 simp only[NV,NJ,↓NP,seval]
 rw[aL]
 refine a8 (fun _ _ _ _ _ h=>h) (aN _ _) 2 ?_
 simp only[hA,c,NV,↓NP,bC,seval]
 exact⟨[(0,0),(3,0)],by simp[NF,ap,seval]⟩
theorem YO (A B:List UInt8) (hA:A.length=16) (hB:B.length=16):Fun Tryz.prog tS 90 [.slc 0 0 16 2 none] [(0,⟨.view,aB (A++B)⟩)] 1 (.slc 1 0 1 (aP 2++(A++B)).length none) [(1,⟨.own 5,aB (aP 2++(A++B))⟩)] 2:=by
 refine fV Tryz.f90 (by kernel_rfl) (by decide) ?_
 conv in aJ _ _=>(reduce;simp only[aH,seval])
 have fi:=f34 (tS:=tS) 2
 have ap:∀ E:List UInt8,(aB E++aB A)++aB B=aB (E++(A++B)):=fun E=>by simp[aB]
 have ap2:∀ E:List UInt8,aB E++(aB A++aB B)=aB (E++(A++B)):=fun E=>by simp[aB]
 have le:(aP 2++(A++B)).length=(aP 2).length+16+16:=by rw[List.length_append,List.length_append,hA,hB]
 have lA:(A++B).length=32:=by simp;omega
 have t0:List.take 16 (aB (A++B))=aB A:=by rw[y5,List.take_left' hA]
 have t1:List.take 16 (List.drop 16 (aB (A++B)))=aB B:=by rw[nW,y5,List.drop_left' hA,List.take_of_length_le (by omega)]
 have lE:=aS 2
 rw[le]
 generalize aP 2=E at *
 have c:E.length≤1099511627744:=by omega
 have c':E.length≤1099511627760:=by omega
 have tk:List.take (E.length+16) (aB E++aB A)=aB E++aB A:=List.take_of_length_le (by rw[List.length_append,aA,aA,hA];omega)
 simp only[NV,↓NP,seval]
 refine aI [] fi ?_
 simp only[NV,NJ,↓NP,seval]
 rw[aL]
 refine a8 (fun _ _ _ _ _ h=>h) (aN _ _) 3 ?_
 simp only[hA,hB,lA,t0,t1,c,c',tk,NV,↓NP,bC,seval]
 exact⟨[(0,0),(5,0)],by simp[NF,ap2,seval]⟩
theorem Ta (seed:List UInt8) (h:Nat) (hs:seed.length=32) (hh:h≤6):Fun Tryz.prog aO 36 [.str seed,.int .i64 (h:Int)] [] 0 (.tup [.agg (aB (dM h (eS seed h))),.int .i64 0]) [] 0:=by
 refine dK Tryz.f36 (by kernel_rfl) (fun _=>by simp only[SV.ren,SV.renL,aC]) ?_
 conv in aJ _ _=>(reduce;simp only[aH,seval])
 have fl:=h82 seed h hh (by omega)
 have ll:=xL seed h
 have fr:=Ib h hh _ ll
 have lr:=dJ h (eS seed h)
 generalize dM h (eS seed h)=R at *
 generalize eS seed h=X at *
 have fh:=f57 (tS:=aO) (h:Int)
 have c0:(decide ((0:Int)≤(h:Int)) && decide ((h:Int)≤6))=true:=by simp;omega
 rw[c0] at fh
 have c1:((seed.length:Int) != 32)=false:=by rw[hs];rfl
 generalize 2 ^ h=N at *
 have c2:N * 16≤16 * N:=by omega
 have tX:List.take (16 * N) (aB X)=aB X:=List.take_of_length_le (by rw[aA];omega)
 simp only[c1,NV,↓NP,seval]
 refine aE fh ?_
 simp only[NV,↓NP,seval]
 refine aI [] fl ?_
 simp only[NV,NJ,↓NP,seval]
 refine aI [(1,0)] fr ?_
 simp only[ll,lr,tX,NV,NJ,↓NP,bC,seval]
theorem h90 (n:Nat) (Y:List UInt8) (h1:1≤n) (h2:n≤2) (hY:Y.length=16 * n):Fun Tryz.prog tS 90 [.slc 0 0 16 n none] [(0,⟨.view,aB Y⟩)] 1 (.slc 1 0 1 (aP (n:Int)++Y).length none) [(1,⟨.own 5,aB (aP (n:Int)++Y)⟩)] 2:=by
 obtain rfl|rfl:n=1∨n=2:=by omega
 ·exact YN Y hY
 ·have:=YO (tS:=tS) (Y.take 16) (Y.drop 16) (by simp;omega) (by simp;omega)
  rw[List.take_append_drop] at this
  exact this
def mQ (seed:List UInt8) (h i:Nat) (msg:List UInt8):List UInt8:=aP (i:Int)++bU (pA (gM seed (i:Int)) (dE 6 [dM h (eS seed h),aP (i:Int),msg]))++(aP (h:Int)++kY h (eS seed h) i)
theorem h42 (seed:List UInt8) (h i:Nat) (msg:List UInt8) (hs:seed.length=32) (hh:h≤2) (hi:i < 2 ^ h) (hm:msg.length≤1048576) :
  Fun Tryz.prog aO 42 [.str seed,.int .i64 (h:Int),.int .i64 (i:Int),.str msg] [] 0 (.tup [.str (mQ seed h i msg),.int .i64 0]) [] 0:=by
 refine dK Tryz.f42 (by kernel_rfl) (fun _=>rfl) ?_
 conv in aJ _ _=>(reduce;simp only[aH,seval])
 have fl:=h82 seed h (by omega) (by omega)
 have ll:=xL seed h
 have fr:=Ib h (by omega) _ ll
 have lr:=dJ h (eS seed h)
 have fp:=h86 (eS seed h) h i hh ll hi
 have lp:=mF h (eS seed h) i
 have fm:=f63 (dM h (eS seed h)) msg (i:Int) lr (by omega)
 have lm:=bK 6 [dM h (eS seed h),aP (i:Int),msg]
 have fg:=h87 (gM seed (i:Int)) (dE 6 [dM h (eS seed h),aP (i:Int),msg]) (by rw[yK];decide) lm
 have lg:=uO (gM seed (i:Int)) (dE 6 [dM h (eS seed h),aP (i:Int),msg])
 have fi:=f34 (tS:=aO) (i:Int)
 have fb:=f33 (tS:=aO) (pA (gM seed (i:Int)) (dE 6 [dM h (eS seed h),aP (i:Int),msg])) (by rw[lg];decide)
 have fk:=h88 seed (i:Int) (by omega)
 have fh:=f57 (tS:=aO) (h:Int)
 have c0:(decide ((0:Int)≤(h:Int)) && decide ((h:Int)≤6))=true:=by simp;omega
 rw[c0] at fh
 have c1:((seed.length:Int) != 32)=false:=by rw[hs];rfl
 have n4:2 ^ h≤4:=Nat.le_trans (Nat.pow_le_pow_right (by decide) hh) (by decide)
 have sh:IntKind.i64.wrap (1 * 2 ^ (min h IntKind.i64.bits))=((2 ^ h:Nat):Int):=by
  have:=G6 (h:=(h:Int)) (by omega) (by omega)
  rw[Int.toNat_natCast] at this
  rw[this];simp
 have lE:=aS (i:Int)
 have lE2:=aS (h:Int)
 have lB:=iC (s:=pA (gM seed (i:Int)) (dE 6 [dM h (eS seed h),aP (i:Int),msg])) (by rw[lg];decide)
 have d0:aP ((0:Nat):Int)=aP 0:=rfl
 unfold mQ
 generalize pA (gM seed (i:Int)) (dE 6 [dM h (eS seed h),aP (i:Int),msg])=G at *
 generalize dE 6 [dM h (eS seed h),aP (i:Int),msg]=D at *
 generalize dM h (eS seed h)=R at *
 generalize kY h (eS seed h) i=Y at *
 generalize eS seed h=X at *
 generalize gM seed (i:Int)=K at *
 generalize aP (i:Int)=EI at *
 generalize bU G=EG at *
 have c2:¬ (i:Int) < 0:=by omega
 have c3:decide ((i:Int) ≥ ((2 ^ h:Nat):Int))=false:=decide_eq_false (by omega)
 have c6:(0:Int)≤(h:Int):=by omega
 have c4:¬ (1048576:Int) < (msg.length:Int):=by omega
 generalize hN:2 ^ h=N at *
 have c5:N * 16≤16 * N:=by omega
 have tX:List.take (16 * N) (aB X)=aB X:=List.take_of_length_le (by rw[aA];omega)
 simp only[c1,NV,↓NP,seval]
 refine aE fh ?_
 simp only[sh,c2,c3,c4,c6,NV,↓NP,seval]
 refine aI [] fl ?_
 simp only[NV,NJ,↓NP,seval]
 refine aI [(0,0)] fp ?_
 rcases Nat.eq_zero_or_pos h with rfl|h0
 ·obtain rfl:Y=[]:=List.length_eq_zero_iff.1 lp
  have fd:=YM (tS:=aO)
  rw[d0]
  rw[d0] at lE2
  generalize aP 0=E0 at *
  have m1:EI.length+EG.length≤cH:=by unfold cH;omega
  have m2:EI.length+EG.length+E0.length≤cH:=by unfold cH;omega
  simp only[ll,tX,NV,NJ,↓NP,seval]
  refine aE fk ?_
  simp only[NV,↓NP,seval]
  refine aI [(0,0)] fr ?_
  simp only[ll,tX,NV,NJ,↓NP,seval]
  refine aE fm ?_
  simp only[NV,↓NP,seval]
  refine aE fg ?_
  simp only[NV,↓NP,seval]
  refine aI [] fi ?_
  simp only[NV,NJ,↓NP,seval]
  refine aI [] fb ?_
  simp only[m1,NV,NJ,↓NP,seval]
  refine aI [] fd ?_
  simp only[m2,NV,NJ,↓NP,seval]
 ·obtain⟨k,rfl⟩:∃ k,h=k+1:=⟨h - 1,by omega⟩
  have fd:=h90 (tS:=aO) (k+1) Y (by omega) hh lp
  have lE3:(aP ((k+1:Nat):Int)++Y).length≤100:=by rw[List.length_append];omega
  generalize aP ((k+1:Nat):Int)++Y=EY at *
  have m1:EI.length+EG.length≤cH:=by unfold cH;omega
  have m2:EI.length+EG.length+EY.length≤cH:=by unfold cH;omega
  have lp':(k+1) * 16≤16 * (k+1):=by omega
  simp only[ll,tX,NV,NJ,↓NP,seval]
  refine aE fk ?_
  simp only[NV,↓NP,seval]
  refine aI [(0,0)] fr ?_
  simp only[ll,tX,NV,NJ,↓NP,seval]
  refine aE fm ?_
  simp only[NV,↓NP,seval]
  refine aE fg ?_
  simp only[NV,↓NP,seval]
  refine aI [] fi ?_
  simp only[NV,NJ,↓NP,seval]
  refine aI [] fb ?_
  simp only[m1,NV,NJ,↓NP,seval]
  refine aI [(1,0)] fd ?_
  simp only[lp,m2,NV,NJ,↓NP,seval]
def zV (seed:List UInt8) (h:Nat):List UInt8:=dM h (eS (BS seed) h)
theorem oM {h:Nat} (hh:h≤6):jH (h:Int)=((2 ^ h:Nat):Int):=by
 unfold jH
 rw[if_pos ⟨by omega,by omega⟩,Int.toNat_natCast];simp
theorem CW {h:Int} (hh:h < 0∨6 < h):jH h=0:=by
 unfold jH
 rw[if_neg (by omega)]
theorem h11 (seed:List UInt8) (h:Nat) (hs:seed.length=32) (hh:h≤6):Fun Tryz.prog aO 11 [.str seed,.int .i64 (h:Int)] [] 0 (.tup [.agg (aB (zV seed h)),.int .i64 0]) [] 0:=by
 refine dK Tryz.f11 (by kernel_rfl) (fun _=>by simp only[SV.ren,SV.renL,aC]) ?_
 conv in aJ _ _=>(reduce;simp only[aH,seval])
 have fw:=A9 (tS:=aO) (h:Int)
 have fu:=h37 seed (by omega)
 have fp:=Ta (BS seed) h (CV seed) hh
 have lr:=dJ h (eS (BS seed) h)
 rw[oM hh] at fw
 unfold zV
 have hp:=Nat.two_pow_pos h
 generalize 2 ^ h=N at *
 have c0:((N:Int)==0)=false:=by simp;omega
 generalize dM h (eS (BS seed) h)=R at *
 generalize BS seed=U at *
 have c1:((seed.length:Int) != 32)=false:=by rw[hs];rfl
 simp only[c1,NV,↓NP,seval]
 refine aE fw ?_
 simp only[c0,NV,↓NP,seval]
 refine aE fu ?_
 simp only[NV,↓NP,seval]
 refine aE fp ?_
 simp only[lr,NV,↓NP,bC,seval]
theorem AAv (seed:List UInt8) (ht:Int) (hc:seed.length≠32∨ht < 0∨6 < ht):Fun Tryz.prog aO 11 [.str seed,.int .i64 ht] [] 0 (.tup [.agg (aB bY),.int .i64 1]) [] 0:=by
 refine dK Tryz.f11 (by kernel_rfl) (fun _=>by simp only[SV.ren,SV.renL,aC]) ?_
 conv in aJ _ _=>(reduce;simp only[aH,seval])
 have fw:=A9 (tS:=aO) ht
 by_cases h1:seed.length=32
 ·rw[CW (by omega)] at fw
  have c1:((seed.length:Int) != 32)=false:=by rw[h1];rfl
  simp only[c1,NV,↓NP,seval]
  refine aE fw ?_
  simp only[NV,↓NP,bC,seval]
  rfl
 ·have c1:((seed.length:Int) != 32)=true:=by simp;omega
  simp only[c1,NV,↓NP,undef,bC,seval]
  rfl
theorem kM (seed:List UInt8) (h i:Nat) (msg:List UInt8) (hh:h≤2):(mQ seed h i msg).length≤2000:=by
 unfold mQ
 have e1:=aS (i:Int)
 have e2:=aS (h:Int)
 have e3:=aS (560:Int)
 have e4:=mF h (eS seed h) i
 have e5:=uO (gM seed (i:Int)) (dE 6 [dM h (eS seed h),aP (i:Int),msg])
 simp only[List.length_append,bU,e4,e5]
 generalize (aP (i:Int)).length=a at *
 generalize (aP (h:Int)).length=b at *
 have:(aP ((560:Nat):Int)).length≤9:=aS _
 omega
theorem h41 (seed:List UInt8) (h i:Nat) (msg:List UInt8) (hs:seed.length=32) (hh:h≤2) (hi:i < 2 ^ h) (hm:msg.length≤1048576) :
  Fun Tryz.prog aO 41 [.str seed,.int .i64 (i:Int),.str msg,.ptr 0 0,.ptr 1 0] [(0,⟨.view,[.int .i64 (h:Int)]⟩),(1,⟨.own 29,[.int .i64 0]⟩)] 2 (.str (bU (mQ seed h i msg))) [(1,⟨.own 29,[.int .i64 0]⟩)] 2:=by
 refine fV Tryz.f41 (by kernel_rfl) (by decide) ?_
 conv in aJ _ _=>(reduce;simp only[aH,seval])
 have fs:=h42 seed h i msg hs hh hi hm
 have ls:=kM seed h i msg hh
 generalize mQ seed h i msg=S at *
 have fb:=f33 (tS:=aO) S (by omega)
 simp only[NV,↓NP,seval]
 refine aE fs ?_
 simp only[NV,↓NP,bC,seval]
 refine aI [] fb ?_
 simp only[NV,NJ,↓NP,seval]
 exact⟨[(0,0),(1,0)],by simp[NF,seval]⟩
def Gs (seed:List UInt8) (h i:Nat) (M:List UInt8) (s t:Int) (R:List UInt8):List UInt8:=
 aP (i:Int)++dM h (eS (uQ seed ((i / 2 ^ h:Nat):Int)) h)++bU (mQ (BS seed) h (i / 2 ^ h) (dM h (eS (uQ seed ((i / 2 ^ h:Nat):Int)) h)))++bU (mQ (uQ seed ((i / 2 ^ h:Nat):Int)) h (i % 2 ^ h) (gZ M s t R))
def y7:List SV:=dG [] 0 0 bY []
theorem i9 {R:List UInt8} {l d:List SV} (h:R.length=16):aF (aB R++l) 16 d=aB R++aF l 0 d:=by
 unfold aF
 rw[List.take_left' (by rw[aA,h]),List.drop_append,aA,h]
 simp[List.drop_of_length_le,aA,h]
theorem cP {R:List UInt8} {x:SV} (h:R.length=16):List.take 17 (aB R++[x])=aB R++[x]:=List.take_of_length_le (by simp[aA,h])
theorem dH (R x:List UInt8):SV.flatL (aB R++[.str x])=true:=by
 have:∀ l:List SV,SV.flatL (l++[.str x])=SV.flatL l:=fun l=>by induction l with
  | nil=>rfl
  | cons a l ih=>simp[SV.flatL,ih]
 rw[this,aX]
theorem Aa {n:Nat} (h:n≤1099511627776):IntKind.i64.wrap ((n:Nat):Int)=(n:Int):=aD (by omega) (by omega)
theorem mR (η:Nat→Nat × Nat) (R x:List UInt8):SV.renL η (aB R++[.str x])=aB R++[.str x]:=SV.flatL_ren η _ (dH R x)
theorem uR {M R:List UInt8} (s t:Int) (hM:M.length≤12) (hR:R.length=16):(gZ M s t R).length≤100:=by
 have e0:=aS ((([104,101,97,100]:List UInt8).length:Nat):Int)
 have e1:=aS (M.length:Int)
 have e2:=oL s t
 simp only[gZ,bU,List.length_append,List.length_cons,List.length_nil] at *
 omega
theorem AAw (seed:List UInt8) (ht i:Int) (M:List UInt8) (s t:Int) (R S:List UInt8) (hR:R.length=16) (hc:seed.length≠32∨ht < 0∨6 < ht) :
  Fun Tryz.prog aO 13 [.str seed,.int .i64 ht,.int .i64 i,.agg (dG M s t R S)] [] 0 (.tup [.agg y7,.int .i64 1]) [] 0:=by
 refine K1 10 Tryz.f13 (by kernel_rfl) (fun _=>rfl) ?_
 conv in SF.keep _ _=>(reduce;simp only[aH,seval])
 have fw:=A9 (tS:=aO) ht
 have sp:=fun d=>i9 (l:=[.str S]) (d:=d) hR
 unfold dG
 by_cases h1:seed.length=32
 ·rw[CW (by omega)] at fw
  have c1:((seed.length:Int) != 32)=false:=by rw[h1];rfl
  simp only[c1,sp,hR,NV,↓NP,bC,seval]
  refine aE fw ?_
  simp only[NV,↓NP,bC,seval]
  rfl
 ·have c1:((seed.length:Int) != 32)=true:=by simp;omega
  simp only[c1,sp,hR,NV,↓NP,undef,bC,seval]
  rfl
theorem YP (seed:List UInt8) (h:Nat) (i:Int) (M:List UInt8) (s t:Int) (R S:List UInt8) (hR:R.length=16) (hs:seed.length=32) (hh:h≤6) (hi:i < 0∨jH (h:Int) * jH (h:Int)≤i) :
  Fun Tryz.prog aO 13 [.str seed,.int .i64 (h:Int),.int .i64 i,.agg (dG M s t R S)] [] 0 (.tup [.agg y7,.int .i64 22]) [] 0:=by
 refine K1 10 Tryz.f13 (by kernel_rfl) (fun _=>rfl) ?_
 conv in SF.keep _ _=>(reduce;simp only[aH,seval])
 have fw:=A9 (tS:=aO) (h:Int)
 have fc:=S7 (tS:=aO) (h:Int)
 have sp:=fun d=>i9 (l:=[.str S]) (d:=d) hR
 unfold dG
 have c1:((seed.length:Int) != 32)=false:=by rw[hs];rfl
 have c0:(jH (h:Int)==0)=false:=by
  have hp:=Nat.two_pow_pos h
  rw[oM hh]
  generalize 2 ^ h=N at *
  simp;omega
 generalize jH (h:Int) * jH (h:Int)=W at *
 generalize jH (h:Int)=V at *
 by_cases h1:i < 0
 ·simp only[c1,sp,hR,NV,↓NP,bC,seval]
  refine aE fw ?_
  simp only[c0,h1,NV,↓NP,undef,bC,seval]
  rfl
 ·have c2:i ≥ W:=by omega
  simp only[c1,sp,hR,NV,↓NP,bC,seval]
  refine aE fw ?_
  simp only[c0,h1,NV,↓NP,seval]
  refine aE fc ?_
  simp only[c2,NV,↓NP,bC,seval]
  rfl
theorem AAx (seed:List UInt8) (h:Nat) (i:Int) (M:List UInt8) (s t:Int) (R S:List UInt8) (hR:R.length=16) (hs:seed.length=32) (hh:h≤6) (h0:0≤i) (hi:i < jH (h:Int) * jH (h:Int)) (hv:nT M s t []=false) :
  Fun Tryz.prog aO 13 [.str seed,.int .i64 (h:Int),.int .i64 i,.agg (dG M s t R S)] [] 0 (.tup [.agg y7,.int .i64 1]) [] 0:=by
 refine K1 10 Tryz.f13 (by kernel_rfl) (fun _=>rfl) ?_
 conv in SF.keep _ _=>(reduce;simp only[aH,seval])
 have fw:=A9 (tS:=aO) (h:Int)
 have fc:=S7 (tS:=aO) (h:Int)
 have fv:=LQ (tS:=aO) M s t R [] hR
 rw[hv] at fv
 have sp:=fun d=>i9 (l:=[.str S]) (d:=d) hR
 have tk:=fun x=>cP (x:=x) hR
 have fl:=dH R
 unfold dG at *
 have c1:((seed.length:Int) != 32)=false:=by rw[hs];rfl
 have c0:(jH (h:Int)==0)=false:=by
  have hp:=Nat.two_pow_pos h
  rw[oM hh]
  generalize 2 ^ h=N at *
  simp;omega
 generalize jH (h:Int) * jH (h:Int)=W at *
 generalize jH (h:Int)=V at *
 have c2:¬ i ≥ W:=by omega
 have c3:¬ i < 0:=by omega
 simp only[c1,sp,hR,NV,↓NP,bC,seval]
 refine aE fw ?_
 simp only[c0,c3,NV,↓NP,seval]
 refine aE fc ?_
 simp only[c2,tk,hR,fl,NV,↓NP,seval]
 refine aE fv ?_
 simp only[fl,NV,↓NP,bC,seval]
 rfl
theorem ZM (seed:List UInt8) (h i:Nat) (M:List UInt8) (s t:Int) (R S:List UInt8) (hR:R.length=16) (hs:seed.length=32) (hh:h≤2) (hi:i < 2 ^ h * 2 ^ h) (hv:nT M s t []=true) :
  Fun Tryz.prog aO 13 [.str seed,.int .i64 (h:Int),.int .i64 (i:Int),.agg (dG M s t R S)] [] 0 (.tup [.agg (dG M s t R (Gs seed h i M s t R)),.int .i64 0]) [] 0:=by
 refine K1 10 Tryz.f13 (by kernel_rfl) (fun _=>by simp only[SV.ren,SV.renL,dG,mR]) ?_
 conv in SF.keep _ _=>(reduce;simp only[aH,seval])
 have hp:=Nat.two_pow_pos h
 have n4:2 ^ h≤4:=Nat.le_trans (Nat.pow_le_pow_right (by decide) hh) (by decide)
 have fw:=A9 (tS:=aO) (h:Int)
 have fc:=S7 (tS:=aO) (h:Int)
 have fv:=LQ (tS:=aO) M s t R [] hR
 rw[hv] at fv
 rw[oM (by omega)] at fw fc
 have ft:=h44 seed ((i / 2 ^ h:Nat):Int) (by omega)
 have fu:=h37 seed (by omega)
 have lT:=LT seed ((i / 2 ^ h:Nat):Int)
 have lU:=CV seed
 have hM:M.length≤12:=by have:=of_decide_eq_true hv;omega
 have fx:=Vr (tS:=aO) M s t R [] (by omega) hR
 have lx:(gZ M s t R).length≤100:=uR s t hM hR
 unfold Gs
 generalize uQ seed ((i / 2 ^ h:Nat):Int)=T at *
 generalize BS seed=U at *
 generalize gZ M s t R=X at *
 have fk:=Ta T h lT (by omega)
 have lk:=dJ h (eS T h)
 generalize dM h (eS T h)=K at *
 have f1:=h41 U h (i / 2 ^ h) K lU hh (Nat.div_lt_of_lt_mul hi) (by omega)
 have f2:=h41 T h (i % 2 ^ h) X lT hh (Nat.mod_lt _ hp) (by omega)
 have fi:=f34 (tS:=aO) (i:Int)
 have uT:2 ^ h * 2 ^ h≤4 * 4:=Nat.mul_le_mul n4 n4
 have hd:=Nat.div_le_self i (2 ^ h)
 have hd':=Nat.mod_le i (2 ^ h)
 have q1:IntKind.i64.wrap ((i:Int).tdiv ((2 ^ h:Nat):Int))=((i / 2 ^ h:Nat):Int):=by
  rw[show (i:Int).tdiv ((2 ^ h:Nat):Int)=((i / 2 ^ h:Nat):Int) from rfl,Aa (by omega)]
 have q2:(i:Int).tmod ((2 ^ h:Nat):Int)=((i % 2 ^ h:Nat):Int):=rfl
 have sp:=fun x d=>i9 (l:=[.str x]) (d:=d) hR
 have tk:=fun x=>cP (x:=x) hR
 have fl:=dH R
 have s1:=kM U h (i / 2 ^ h) K hh
 have s2:=kM T h (i % 2 ^ h) X hh
 have b1:=iC (s:=mQ U h (i / 2 ^ h) K) (by omega)
 have b2:=iC (s:=mQ T h (i % 2 ^ h) X) (by omega)
 generalize bU (mQ U h (i / 2 ^ h) K)=S1 at *
 generalize bU (mQ T h (i % 2 ^ h) X)=S2 at *
 have lE:=aS (i:Int)
 generalize aP (i:Int)=EI at *
 unfold dG at *
 have c1:((seed.length:Int) != 32)=false:=by rw[hs];rfl
 have c2:decide ((i:Int) ≥ ((2 ^ h:Nat):Int) * ((2 ^ h:Nat):Int))=false:=decide_eq_false (by rw[← Int.natCast_mul];omega)
 have c3:¬ (i:Int) < 0:=by omega
 generalize 2 ^ h=N at *
 have c0:((N:Int)==0)=false:=by simp;omega
 simp only[c1,sp,hR,NV,↓NP,bC,seval]
 refine aE fw ?_
 simp only[c0,c3,NV,↓NP,seval]
 refine aE fc ?_
 simp only[c2,tk,hR,fl,NV,↓NP,seval]
 refine aE fv ?_
 simp only[fl,NV,↓NP,bC,seval]
 refine aE fw ?_
 have c4:¬ (N:Int)=0:=by omega
 simp only[c4,q1,NV,NJ,↓NP,seval]
 refine aE ft ?_
 simp only[NV,↓NP,seval]
 refine aE fk ?_
 simp only[lk,NV,↓NP,bC,seval]
 refine aI [] fi ?_
 have m1:EI.length+16≤cH:=by unfold cH;omega
 have m2:EI.length+16+S1.length≤cH:=by unfold cH;omega
 have m3:EI.length+16+S1.length+S2.length≤cH:=by unfold cH;omega
 simp only[lk,m1,NV,NJ,↓NP,seval]
 refine aE fu ?_
 simp only[c4,q1,NV,NJ,↓NP,seval]
 refine aI [(0,0),(3,0)] f1 ?_
 simp only[c4,q2,lk,m2,tk,hR,fl,NV,NJ,↓NP,seval]
 refine aE fx ?_
 simp only[fl,NV,↓NP,seval]
 refine aI [(0,0),(3,0)] f2 ?_
 simp only[sp,tk,hR,NV,NJ,↓NP,bC,seval]
 rw[lk];exact m3
def vZ (r:List UInt8):List UInt8 × Nat × Int:=if r.length < 16 then (Ab r,0,5) else (r.take 16,16,0)
theorem pW (r:List UInt8):(vZ r).1.length=16:=by
 unfold vZ
 split
 ·exact FS (by omega)
 ·simp;omega
theorem YR (r:List UInt8):Fun Tryz.prog tS 57 [.ptr 0 0] [(0,⟨.own 66,lW 1 r.length 0 0⟩),(1,⟨.view,aB r⟩)] 2 (.agg (aB (vZ r).1))
  [(0,⟨.own 66,lW 1 r.length (v9 (vZ r).2.1 (vZ r).2.2) (vZ r).2.2⟩)] 2:=by
 unfold vZ
 split
 ·rename_i h;exact AAy r h
 ·rename_i h;exact h57 r (by omega)
theorem h54 (r:List UInt8) (x0:Int) (hr:r.length≤2 ^ 40):Fun Tryz.prog tS 54 [.ptr 2 0,.ptr 3 0] [(0,⟨.own 66,lW 1 r.length 0 0⟩),(1,⟨.view,aB r⟩),(2,⟨.view,[.ptr 0 0]⟩),(3,⟨.own 3,[.int .i64 x0]⟩)] 4 (.tup [])
  [(0,⟨.own 66,lW 1 r.length (v9 (cR r).2.1 (cR r).2.2) (cR r).2.2⟩),(3,⟨.own 3,[.int .i64 (cR r).1]⟩)] 4:=by
 refine fV Tryz.f54 (by kernel_rfl) (by decide) ?_
 conv in aJ _ _=>(reduce;simp only[aH,seval])
 have fg:=h55 (tS:=tS) r hr
 generalize cR r=D at *
 unfold lW at *
 simp only[NV,↓NP,seval]
 refine aI [(0,0),(1,0)] fg ?_
 simp only[NV,NJ,↓NP,bC,seval]
 exact⟨[(0,0),(1,0),(2,0),(3,0)],by simp[NF,seval]⟩
theorem h58 (r:List UInt8) (x0:List UInt8) (hr:r.length≤2 ^ 40):Fun Tryz.prog tS 58 [.ptr 2 0,.ptr 3 0] [(0,⟨.own 66,lW 1 r.length 0 0⟩),(1,⟨.view,aB r⟩),(2,⟨.view,[.ptr 0 0]⟩),(3,⟨.own 9,[.str x0]⟩)] 4 (.tup [])
  [(0,⟨.own 66,lW 1 r.length (v9 (cJ r).2.1 (cJ r).2.2) (cJ r).2.2⟩),(3,⟨.own 9,[.str (cJ r).1]⟩)] 4:=by
 refine fV Tryz.f58 (by kernel_rfl) (by decide) ?_
 conv in aJ _ _=>(reduce;simp only[aH,seval])
 have fg:=ZN (tS:=tS) r hr
 generalize cJ r=D at *
 unfold lW at *
 simp only[NV,↓NP,seval]
 refine aI [(0,0),(1,0)] fg ?_
 simp only[NV,NJ,↓NP,bC,seval]
 exact⟨[(0,0),(1,0),(2,0),(3,0)],by simp[NF,seval]⟩
theorem Vs (r:List UInt8) (x0:List UInt8) (hr:r.length≤2 ^ 40):Fun Tryz.prog tS 60 [.ptr 2 0,.ptr 3 0] [(0,⟨.own 66,lW 1 r.length 0 0⟩),(1,⟨.view,aB r⟩),(2,⟨.view,[.ptr 0 0]⟩),(3,⟨.own 9,[.str x0]⟩)] 4 (.tup [])
  [(0,⟨.own 66,lW 1 r.length (v9 (cJ r).2.1 (cJ r).2.2) (cJ r).2.2⟩),(3,⟨.own 9,[.str (cJ r).1]⟩)] 4:=by
 refine fV Tryz.f60 (by kernel_rfl) (by decide) ?_
 conv in aJ _ _=>(reduce;simp only[aH,seval])
 have fg:=ZN (tS:=tS) r hr
 generalize cJ r=D at *
 unfold lW at *
 simp only[NV,↓NP,seval]
 refine aI [(0,0),(1,0)] fg ?_
 simp only[NV,NJ,↓NP,bC,seval]
 exact⟨[(0,0),(1,0),(2,0),(3,0)],by simp[NF,seval]⟩
theorem h56 (r:List UInt8) (x0:List UInt8) (hx:x0.length=16):Fun Tryz.prog tS 56 [.ptr 2 0,.ptr 3 0] [(0,⟨.own 66,lW 1 r.length 0 0⟩),(1,⟨.view,aB r⟩),(2,⟨.view,[.ptr 0 0]⟩),(3,⟨.own 24,aB x0⟩)] 4 (.tup [])
  [(0,⟨.own 66,lW 1 r.length (v9 (vZ r).2.1 (vZ r).2.2) (vZ r).2.2⟩),(3,⟨.own 24,aB (vZ r).1⟩)] 4:=by
 refine fV Tryz.f56 (by kernel_rfl) (by decide) ?_
 conv in aJ _ _=>(reduce;simp only[aH,seval])
 have fg:=YR (tS:=tS) r
 have lD:=pW r
 generalize vZ r=D at *
 unfold lW at *
 simp only[NV,↓NP,seval]
 refine aI [(0,0),(1,0)] fg ?_
 simp only[hx,lD,NV,NJ,↓NP,bC,seval]
 exact⟨[(0,0),(1,0),(2,0),(3,0)],by simp[NF,seval]⟩
def pK (left:Nat) (e:Int) (is:Bool):Int:=if e=0∧(0 < left∨is=false) then 6 else e
theorem h61 (L u:Nat) (e:Int) (is:Bool) (b:List UInt8) (hb:b.length=L) (hu:u≤L):Fun Tryz.prog tS 61 [.ptr 0 0,.bool is] [(0,⟨.view,lW 1 L u e⟩),(1,⟨.view,aB b⟩)] 2 (.int .i64 (pK (L - u) e is)) [] 2:=by
 refine dK Tryz.f61 (by kernel_rfl) (fun _=>rfl) ?_
 conv in aJ _ _=>(reduce;simp only[aH,seval])
 unfold lW pK
 by_cases he:e=0
 ·subst he
  by_cases hl:0 < L - u
  ·have c:((L - u:Nat):Int) > 0:=by omega
   simp only[hl,c,true_or,NV,↓NP,undef,seval]
  ·have c:¬ ((L - u:Nat):Int) > 0:=by omega
   cases is <;> simp only[hl,c,or_true,or_self,NV,↓NP,seval]
 ·have c:(e==0)=false:=by simpa using he
  simp only[he,c,NV,↓NP,undef,seval]
def xM (b:List UInt8):Int × List UInt8 × List UInt8 × List UInt8 × Nat × Int:=
 let a:=cR b
 if a.2.2≠0 then (a.1,bY,[],[],0,a.2.2) else
 let d:=vZ (b.drop a.2.1)
 if d.2.2≠0 then (a.1,d.1,[],[],a.2.1,d.2.2) else
 let s:=cJ (b.drop (a.2.1+d.2.1))
 if s.2.2≠0 then (a.1,d.1,s.1,[],a.2.1+d.2.1,s.2.2) else
 let t:=cJ (b.drop (a.2.1+d.2.1+s.2.1))
 (a.1,d.1,s.1,t.1,a.2.1+d.2.1+s.2.1+v9 t.2.1 t.2.2,t.2.2)
def Vt:List SV:=[.fn 54 [] [.ptr 3 0,.ptr 4 0],.fn 56 [] [.ptr 3 0,.ptr 5 0],.fn 58 [] [.ptr 3 0,.ptr 6 0],.fn 60 [] [.ptr 3 0,.ptr 7 0]]
def mV (b:List UInt8) (x:Int) (d s t:List UInt8) (u:Nat) (e:Int):bL:=
 [(0,⟨.own 66,lW 1 b.length u e⟩),(1,⟨.view,aB b⟩),(2,⟨.view,Vt⟩),(3,⟨.view,[.ptr 0 0]⟩),(4,⟨.own 3,[.int .i64 x]⟩),(5,⟨.own 24,aB d⟩),(6,⟨.own 9,[.str s]⟩),(7,⟨.own 9,[.str t]⟩)]
def mW (b:List UInt8) (x:Int) (d s t:List UInt8) (u:Nat) (e:Int):bL:=
 [(0,⟨.own 66,lW 1 b.length u e⟩),(4,⟨.own 3,[.int .i64 x]⟩),(5,⟨.own 24,aB d⟩),(6,⟨.own 9,[.str s]⟩),(7,⟨.own 9,[.str t]⟩)]
theorem G8 (r:List UInt8) (h:(vZ r).2.2=0):(vZ r).2.1≤r.length:=by
 unfold vZ at *
 split at h
 ·cases h
 ·rename_i c
  rw[if_neg c]
  show 16≤_
  omega
theorem AAz (b:List UInt8) (hb:b.length≤2 ^ 40) :
  Fun Tryz.prog tS 53 [.ptr 0 0,.slc 2 0 1 4 none] (mV b 0 bY [] [] 0 0) 8 (.tup [])
   (mW b (xM b).1 (xM b).2.1 (xM b).2.2.1 (xM b).2.2.2.1 (xM b).2.2.2.2.1 (xM b).2.2.2.2.2) 8:=by
 have f1:=h54 (tS:=tS) b 0 hb
 have u1:(cR b).2.2=0→(cR b).2.1≤b.length:=fun h=>by
  rcases hd:cR b with⟨x,u,e⟩
  rw[hd] at h
  simp only at h
  subst h
  exact (sS hd).2.1
 have lz:bY.length=16:=rfl
 unfold xM
 simp only
 rcases hA:cR b with⟨x,ua,ea⟩
 rw[hA] at f1 u1
 simp only at *
 by_cases c1:ea=0
 case neg=>
  rw[if_pos c1]
  have n1:v9 ua ea=0:=if_neg c1
  have z1:(ea==0)=false:=by simpa using c1
  generalize bY=Z at *
  simp only
  refine fV Tryz.f53 (by kernel_rfl) (by decide) ?_
  conv in aJ _ _=>(reduce;simp only[aH,seval])
  unfold mV mW lW Vt at *
  simp only[NV,↓NP,seval]
  rw[aL]
  refine a8 (fun _ _ _ _ _ h=>h) (aN _ _) 5 ?_
  simp only[NV,↓NP,seval]
  refine aI [(0,0),(1,0),(3,0),(4,0)] f1 ?_
  simp only[n1,z1,NV,NJ,↓NP,seval]
  exact⟨[(0,0),(1,0),(2,0),(3,0),(4,0),(5,0),(6,0),(7,0)],by simp[NF,seval]⟩
 subst c1
 have u1:=u1 rfl
 have n1:v9 ua 0=ua:=rfl
 have z1:((0:Int)==0)=true:=rfl
 rw[if_neg (fun h=>h rfl)]
 have f2:=h56 (tS:=tS) (b.drop ua) bY rfl
 have ld:=pW (b.drop ua)
 have u2:=G8 (b.drop ua)
 generalize bY=Z at *
 rcases hD:vZ (b.drop ua) with⟨d,ud,ed⟩
 rw[hD] at f2 ld u2
 simp only[List.length_drop] at *
 have q1:List.take (b.length - ua) (List.drop ua (aB b))=aB (b.drop ua):=by rw[nW];exact List.take_of_length_le (by rw[aA,List.length_drop];omega)
 have q2:ua+(b.length - ua)≤b.length:=by omega
 by_cases c2:ed=0
 case neg=>
  rw[if_pos c2]
  have n2:v9 ud ed=0:=if_neg c2
  have z2:(ed==0)=false:=by simpa using c2
  simp only
  refine fV Tryz.f53 (by kernel_rfl) (by decide) ?_
  conv in aJ _ _=>(reduce;simp only[aH,seval])
  unfold mV mW lW Vt at *
  simp only[NV,↓NP,seval]
  rw[aL]
  refine a8 (fun _ _ _ _ _ h=>h) (aN _ _) 5 ?_
  simp only[NV,↓NP,seval]
  refine aI [(0,0),(1,0),(3,0),(4,0)] f1 ?_
  simp only[n1,z1,NV,NJ,↓NP,seval]
  refine aI [(0,0),(1,ua),(3,0),(5,0)] f2 ?_
  simp only[List.length_drop,q1,q2,n2,z2,NV,NJ,↓NP,seval]
  exact⟨[(0,0),(1,0),(2,0),(3,0),(4,0),(5,0),(6,0),(7,0)],by simp[NF,seval]⟩
 subst c2
 have u2:=u2 rfl
 have n2:v9 ud 0=ud:=rfl
 have z2:((0:Int)==0)=true:=rfl
 rw[if_neg (fun h=>h rfl)]
 have f3:=h58 (tS:=tS) (b.drop (ua+ud)) [] (by rw[List.length_drop];omega)
 have u3:∀ s u e,cJ (b.drop (ua+ud))=(s,u,e)→e=0→u≤(b.drop (ua+ud)).length:=fun s u e h=>mS h
 rcases hS:cJ (b.drop (ua+ud)) with⟨s,us,es⟩
 have u3:=u3 s us es hS
 rw[hS] at f3
 simp only[List.length_drop] at *
 have q3:List.take (b.length - (ua+ud)) (List.drop (ua+ud) (aB b))=aB (b.drop (ua+ud)):=by rw[nW];exact List.take_of_length_le (by rw[aA,List.length_drop];omega)
 have q4:ua+ud+(b.length - (ua+ud))≤b.length:=by omega
 by_cases c3:es=0
 case neg=>
  rw[if_pos c3]
  have n3:v9 us es=0:=if_neg c3
  have z3:(es==0)=false:=by simpa using c3
  simp only
  refine fV Tryz.f53 (by kernel_rfl) (by decide) ?_
  conv in aJ _ _=>(reduce;simp only[aH,seval])
  unfold mV mW lW Vt at *
  simp only[NV,↓NP,seval]
  rw[aL]
  refine a8 (fun _ _ _ _ _ h=>h) (aN _ _) 5 ?_
  simp only[NV,↓NP,seval]
  refine aI [(0,0),(1,0),(3,0),(4,0)] f1 ?_
  simp only[n1,z1,NV,NJ,↓NP,seval]
  refine aI [(0,0),(1,ua),(3,0),(5,0)] f2 ?_
  simp only[List.length_drop,Nat.sub_sub,q1,q2,n2,z1,NV,NJ,↓NP,seval]
  refine aI [(0,0),(1,ua+ud),(3,0),(6,0)] f3 ?_
  simp only[List.length_drop,q3,q4,n3,z3,NV,NJ,↓NP,seval]
  exact⟨[(0,0),(1,0),(2,0),(3,0),(4,0),(5,0),(6,0),(7,0)],by simp[NF,seval]⟩
 subst c3
 have u3:=u3 rfl
 have n3:v9 us 0=us:=rfl
 have z3:((0:Int)==0)=true:=rfl
 rw[if_neg (fun h=>h rfl)]
 have f4:=Vs (tS:=tS) (b.drop (ua+ud+us)) [] (by rw[List.length_drop];omega)
 rcases hT:cJ (b.drop (ua+ud+us)) with⟨t,ut,et⟩
 rw[hT] at f4
 simp only[List.length_drop] at *
 have q5:List.take (b.length - (ua+ud+us)) (List.drop (ua+ud+us) (aB b))=aB (b.drop (ua+ud+us)):=by rw[nW];exact List.take_of_length_le (by rw[aA,List.length_drop];omega)
 have q6:ua+ud+us+(b.length - (ua+ud+us))≤b.length:=by omega
 generalize v9 ut et=av at *
 refine fV Tryz.f53 (by kernel_rfl) (by decide) ?_
 conv in aJ _ _=>(reduce;simp only[aH,seval])
 unfold mV mW lW Vt at *
 simp only[NV,↓NP,seval]
 rw[aL]
 refine a8 (fun _ _ _ _ _ h=>h) (aN _ _) 5 ?_
 simp only[NV,↓NP,seval]
 refine aI [(0,0),(1,0),(3,0),(4,0)] f1 ?_
 simp only[n1,z1,NV,NJ,↓NP,seval]
 refine aI [(0,0),(1,ua),(3,0),(5,0)] f2 ?_
 simp only[List.length_drop,Nat.sub_sub,q1,q2,n2,z1,NV,NJ,↓NP,seval]
 refine aI [(0,0),(1,ua+ud),(3,0),(6,0)] f3 ?_
 simp only[List.length_drop,Nat.sub_sub,q3,q4,n3,z1,NV,NJ,↓NP,seval]
 refine aI [(0,0),(1,ua+ud+us),(3,0),(7,0)] f4 ?_
 simp only[List.length_drop,Nat.sub_sub,q5,q6,NV,NJ,↓NP,seval]
 exact⟨[(0,0),(1,0),(2,0),(3,0),(4,0),(5,0),(6,0),(7,0)],by simp[NF,seval]⟩
theorem G9 {r:List UInt8} {l:List Int} {u:Nat} {e:Int} (h:eU r=(l,u,e)):e=0→u≤r.length:=fun he=>by subst he;exact (Ir h).1
theorem h71 (r:List UInt8) (hr:r.length≤2 ^ 36):Fun Tryz.prog tS 71 [.ptr 0 0] [(0,⟨.own 66,lW 1 r.length 0 0⟩),(1,⟨.view,aB r⟩)] 2 (AN 2 1 (eU r).1.length)
  (v7 2 3 (d9 (eU r).1) [(0,⟨.own 66,lW 1 r.length (v9 (eU r).2.1 (eU r).2.2) (eU r).2.2⟩)] (eU r).1.length) (s9 2 (eU r).1.length):=by
 refine fV Tryz.f71 (by kernel_rfl) (by cases (eU r).1.length <;> simp[s9]) ?_
 conv in aJ _ _=>(reduce;simp only[aH,seval])
 have fg:=f43 (tS:=tS) r hr
 rcases hd:eU r with⟨l,u,e⟩
 rw[hd] at fg
 have ft:=YQ (tS:=tS) r u e (G9 hd)
 simp only at *
 unfold rI at fg
 simp only at *
 unfold lW at *
 rcases hk:l.length with _|k
 ·rw[hk] at fg
  simp only[NV,↓NP,seval]
  refine aI [(1,0)] fg ?_
  simp only[NV,NJ,↓NP,seval]
  refine aI [(0,0),(1,0)] ft ?_
  simp only[NV,NJ,↓NP,seval]
  exact⟨[(0,0),(1,0)],by simp[NF,seval]⟩
 ·rw[hk] at fg
  simp only[NV,↓NP,seval]
  refine aI [(1,0)] fg ?_
  simp only[NV,NJ,↓NP,seval]
  refine aI [(0,0),(1,0)] ft ?_
  simp only[NV,NJ,↓NP,seval]
  exact⟨[(0,0),(1,0),(2,0)],by simp[NF,seval]⟩
theorem h69 (r:List UInt8) (M:List UInt8) (s t:Int) (R S:List UInt8) (hR:R.length=16) (hr:r.length≤2 ^ 40):Fun Tryz.prog tS 69 [.ptr 2 0,.ptr 3 0] [(0,⟨.own 66,lW 1 r.length 0 0⟩),(1,⟨.view,aB r⟩),(2,⟨.view,[.ptr 0 0]⟩),(3,⟨.own 26,dG M s t R S⟩)] 4 (.tup [])
  [(0,⟨.own 66,lW 1 r.length (v9 (cJ r).2.1 (cJ r).2.2) (cJ r).2.2⟩),(3,⟨.own 26,dG (cJ r).1 s t R S⟩)] 4:=by
 refine fV Tryz.f69 (by kernel_rfl) (by decide) ?_
 conv in aJ _ _=>(reduce;simp only[aH,seval])
 have fg:=ZN (tS:=tS) r hr
 have rt:=fun η=>mR η R S
 generalize cJ r=D at *
 unfold lW dG at *
 simp only[NV,↓NP,seval]
 refine aI [(0,0),(1,0)] fg ?_
 simp only[hR,NV,NJ,↓NP,bC,seval]
 exact⟨[(0,0),(1,0),(2,0),(3,0)],by simp[rt,NF,seval]⟩
theorem h73 (r:List UInt8) (M:List UInt8) (s t:Int) (R S:List UInt8) (hR:R.length=16) (hr:r.length≤2 ^ 40):Fun Tryz.prog tS 73 [.ptr 2 0,.ptr 3 0] [(0,⟨.own 66,lW 1 r.length 0 0⟩),(1,⟨.view,aB r⟩),(2,⟨.view,[.ptr 0 0]⟩),(3,⟨.own 26,dG M s t R S⟩)] 4 (.tup [])
  [(0,⟨.own 66,lW 1 r.length (v9 (cJ r).2.1 (cJ r).2.2) (cJ r).2.2⟩),(3,⟨.own 26,dG M s t R (cJ r).1⟩)] 4:=by
 refine fV Tryz.f73 (by kernel_rfl) (by decide) ?_
 conv in aJ _ _=>(reduce;simp only[aH,seval])
 have fg:=ZN (tS:=tS) r hr
 generalize cJ r=D at *
 have rt:=fun η=>mR η R D.1
 have sp:=fun d=>i9 (l:=[.str S]) (d:=d) hR
 unfold lW dG at *
 simp only[NV,↓NP,seval]
 refine aI [(0,0),(1,0)] fg ?_
 simp only[hR,sp,NV,NJ,↓NP,bC,seval]
 exact⟨[(0,0),(1,0),(2,0),(3,0)],by simp[rt,NF,seval]⟩
theorem FT {R D:List UInt8} {l:List SV} (h:R.length=16) (h':D.length=16):aF (aB R++l) 0 (aB D)=aB D++l:=by
 unfold aF
 rw[List.take_zero,List.nil_append,Nat.zero_add,aA,h',List.drop_left' (by rw[aA,h])]
theorem h72 (r:List UInt8) (M:List UInt8) (s t:Int) (R S:List UInt8) (hR:R.length=16):Fun Tryz.prog tS 72 [.ptr 2 0,.ptr 3 0] [(0,⟨.own 66,lW 1 r.length 0 0⟩),(1,⟨.view,aB r⟩),(2,⟨.view,[.ptr 0 0]⟩),(3,⟨.own 26,dG M s t R S⟩)] 4 (.tup [])
  [(0,⟨.own 66,lW 1 r.length (v9 (vZ r).2.1 (vZ r).2.2) (vZ r).2.2⟩),(3,⟨.own 26,dG M s t (vZ r).1 S⟩)] 4:=by
 refine fV Tryz.f72 (by kernel_rfl) (by decide) ?_
 conv in aJ _ _=>(reduce;simp only[aH,seval])
 have fg:=YR (tS:=tS) r
 have lD:=pW r
 generalize vZ r=D at *
 have rt:=fun η=>mR η D.1 S
 have sp:=FT (l:=[.str S]) hR lD
 unfold lW dG at *
 simp only[NV,↓NP,seval]
 refine aI [(0,0),(1,0)] fg ?_
 simp only[hR,lD,sp,NV,NJ,↓NP,bC,seval]
 exact⟨[(0,0),(1,0),(2,0),(3,0)],by simp[rt,NF,seval]⟩
def xN (r:List UInt8) (s t:Int):Int × Int × Nat × Int:=
 if (eU r).2.2≠0 then (s,t,0,(eU r).2.2) else match (eU r).1 with
  | [a,b]=>(a,b,(eU r).2.1,0)
  | _=>(s,t,(eU r).2.1,6)
theorem YS (r:List UInt8) (M:List UInt8) (s t:Int) (R S:List UInt8) (hR:R.length=16) (hr:r.length≤2 ^ 36):Fun Tryz.prog tS 70 [.ptr 2 0,.ptr 3 0] [(0,⟨.own 66,lW 1 r.length 0 0⟩),(1,⟨.view,aB r⟩),(2,⟨.view,[.ptr 0 0]⟩),(3,⟨.own 26,dG M s t R S⟩)] 4 (.tup [])
  [(0,⟨.own 66,lW 1 r.length (xN r s t).2.2.1 (xN r s t).2.2.2⟩),(3,⟨.own 26,dG M (xN r s t).1 (xN r s t).2.1 R S⟩)] 4:=by
 refine fV Tryz.f70 (by kernel_rfl) (by decide) ?_
 conv in aJ _ _=>(reduce;simp only[aH,seval])
 have fg:=h71 (tS:=tS) r hr
 unfold xN
 rcases hd:eU r with⟨l,u,e⟩
 rw[hd] at fg
 have rt:=fun η=>mR η R S
 simp only at *
 unfold lW dG at *
 by_cases he:e=0
 case neg=>
  have z:(e != 0)=true:=by simpa using he
  have n1:v9 u e=0:=if_neg he
  rw[n1] at fg
  rw[if_pos he]
  rcases hk:l.length with _|k
  ·rw[hk] at fg
   simp only[NV,↓NP,seval]
   refine aI [(0,0),(1,0)] fg ?_
   simp only[z,NV,NJ,↓NP,seval]
   exact⟨[(0,0),(1,0),(2,0),(3,0)],by simp[rt,NF,seval]⟩
  ·rw[hk] at fg
   simp only[NV,↓NP,seval]
   refine aI [(0,0),(1,0)] fg ?_
   simp only[z,NV,NJ,↓NP,seval]
   exact⟨[(0,0),(1,0),(2,0),(3,0)],by simp[rt,NF,seval]⟩
 subst he
 have n1:v9 u 0=u:=rfl
 rw[n1] at fg
 rw[if_neg (fun h=>h rfl)]
 match l,fg with
 | [],fg=>
  simp only[NV,↓NP,seval]
  refine aI [(0,0),(1,0)] fg ?_
  simp only[NV,NJ,↓NP,bC,seval]
  exact⟨[(0,0),(1,0),(2,0),(3,0)],by simp[rt,NF,seval]⟩
 | [a],fg=>
  simp only[NV,↓NP,seval]
  refine aI [(0,0),(1,0)] fg ?_
  simp only[NV,NJ,↓NP,bC,seval]
  exact⟨[(0,0),(1,0),(2,0),(3,0)],by simp[rt,NF,seval]⟩
 | [a,b],fg=>
  simp only[d9,List.map_cons,List.map_nil] at fg
  simp only[NV,↓NP,seval]
  refine aI [(0,0),(1,0)] fg ?_
  simp only[hR,NV,NJ,↓NP,Ei,cV,jC,touch,clear,eV,lZ,bC,seval]
  exact⟨[(0,0),(1,0),(2,0),(3,0)],by simp[rt,NF,seval]⟩
 | a :: b :: c :: l,fg=>
  have cl:(((l.length+1+1+1:Nat):Int) != 2)=true:=by simp;omega
  dsimp only
  generalize hX:a :: b :: c :: l=X at *
  have lX:X.length=l.length+1+1+1:=by rw[← hX];rfl
  rw[lX] at fg
  simp only[NV,↓NP,seval]
  refine aI [(0,0),(1,0)] fg ?_
  simp only[cl,NV,NJ,↓NP,bC,seval]
  exact⟨[(0,0),(1,0),(2,0),(3,0)],by simp[rt,NF,seval]⟩
def BT (b:List UInt8):List UInt8 × Int × Int × List UInt8 × List UInt8 × Nat × Int:=
 let a:=cJ b
 if a.2.2≠0 then (a.1,0,0,bY,[],0,a.2.2) else
 let d:=xN (b.drop a.2.1) 0 0
 if d.2.2.2≠0 then (a.1,d.1,d.2.1,bY,[],a.2.1+d.2.2.1,d.2.2.2) else
 let s:=vZ (b.drop (a.2.1+d.2.2.1))
 if s.2.2≠0 then (a.1,d.1,d.2.1,s.1,[],a.2.1+d.2.2.1,s.2.2) else
 let t:=cJ (b.drop (a.2.1+d.2.2.1+s.2.1))
 (a.1,d.1,d.2.1,s.1,t.1,a.2.1+d.2.2.1+s.2.1+v9 t.2.1 t.2.2,t.2.2)
def Vu:List SV:=[.fn 69 [] [.ptr 3 0,.ptr 4 0],.fn 70 [] [.ptr 3 0,.ptr 4 0],.fn 72 [] [.ptr 3 0,.ptr 4 0],.fn 73 [] [.ptr 3 0,.ptr 4 0]]
def mD (b:List UInt8) (h:List SV) (u:Nat) (e:Int):bL:=
 [(0,⟨.own 66,lW 1 b.length u e⟩),(1,⟨.view,aB b⟩),(2,⟨.view,Vu⟩),(3,⟨.view,[.ptr 0 0]⟩),(4,⟨.own 26,h⟩)]
def mE (b:List UInt8) (h:List SV) (u:Nat) (e:Int):bL:=[(0,⟨.own 66,lW 1 b.length u e⟩),(4,⟨.own 26,h⟩)]
theorem Js (r:List UInt8) (s t:Int):(xN r s t).2.2.1≤r.length:=by
 unfold xN
 rcases hd:eU r with⟨l,u,e⟩
 have hu:=G9 hd
 simp only
 split
 ·exact Nat.zero_le _
 ·rename_i c
  have hu:=hu (by simpa using c)
  split <;> exact hu
theorem AA0 (b:List UInt8) (hb:b.length≤2 ^ 36) :
  Fun Tryz.prog tS 53 [.ptr 0 0,.slc 2 0 1 4 none] (mD b (dG [] 0 0 bY []) 0 0) 5 (.tup [])
   (mE b (dG (BT b).1 (BT b).2.1 (BT b).2.2.1 (BT b).2.2.2.1 (BT b).2.2.2.2.1) (BT b).2.2.2.2.2.1 (BT b).2.2.2.2.2.2) 5:=by
 have lz:bY.length=16:=rfl
 have rt:=fun η R x=>mR η R x
 have f1:=h69 (tS:=tS) b [] 0 0 bY [] lz (by omega)
 have u1:∀ s u e,cJ b=(s,u,e)→e=0→u≤b.length:=fun s u e h=>mS h
 unfold BT
 simp only
 rcases hA:cJ b with⟨x,ua,ea⟩
 have u1:=u1 x ua ea hA
 rw[hA] at f1
 simp only at *
 by_cases c1:ea=0
 case neg=>
  rw[if_pos c1]
  have n1:v9 ua ea=0:=if_neg c1
  have z1:(ea==0)=false:=by simpa using c1
  generalize bY=Z at *
  simp only
  refine fV Tryz.f53 (by kernel_rfl) (by decide) ?_
  conv in aJ _ _=>(reduce;simp only[aH,seval])
  unfold mD mE lW Vu dG at *
  simp only[NV,↓NP,seval]
  rw[aL]
  refine a8 (fun _ _ _ _ _ h=>h) (aN _ _) 5 ?_
  simp only[NV,↓NP,seval]
  refine aI [(0,0),(1,0),(3,0),(4,0)] f1 ?_
  simp only[rt,n1,z1,NV,NJ,↓NP,seval]
  exact⟨[(0,0),(1,0),(2,0),(3,0),(4,0)],by simp[rt,NF,seval]⟩
 subst c1
 have u1:=u1 rfl
 have n1:v9 ua 0=ua:=rfl
 have z1:((0:Int)==0)=true:=rfl
 rw[if_neg (fun h=>h rfl)]
 have f2:=YS (tS:=tS) (b.drop ua) x 0 0 bY [] lz (by rw[List.length_drop];omega)
 have u2:=Js (b.drop ua) 0 0
 rcases hD:xN (b.drop ua) 0 0 with⟨v1,v2,ud,ed⟩
 rw[hD] at f2 u2
 simp only[List.length_drop] at *
 have q1:List.take (b.length - ua) (List.drop ua (aB b))=aB (b.drop ua):=by rw[nW];exact List.take_of_length_le (by rw[aA,List.length_drop];omega)
 have q2:ua+(b.length - ua)≤b.length:=by omega
 by_cases c2:ed=0
 case neg=>
  rw[if_pos c2]
  have z2:(ed==0)=false:=by simpa using c2
  generalize bY=Z at *
  simp only
  refine fV Tryz.f53 (by kernel_rfl) (by decide) ?_
  conv in aJ _ _=>(reduce;simp only[aH,seval])
  unfold mD mE lW Vu dG at *
  simp only[NV,↓NP,seval]
  rw[aL]
  refine a8 (fun _ _ _ _ _ h=>h) (aN _ _) 5 ?_
  simp only[NV,↓NP,seval]
  refine aI [(0,0),(1,0),(3,0),(4,0)] f1 ?_
  simp only[rt,n1,z1,NV,NJ,↓NP,seval]
  refine aI [(0,0),(1,ua),(3,0),(4,0)] f2 ?_
  simp only[List.length_drop,Nat.sub_sub,rt,q1,q2,z2,NV,NJ,↓NP,seval]
  exact⟨[(0,0),(1,0),(2,0),(3,0),(4,0)],by simp[rt,NF,seval]⟩
 subst c2
 have z2:((0:Int)==0)=true:=rfl
 rw[if_neg (fun h=>h rfl)]
 have f3:=h72 (tS:=tS) (b.drop (ua+ud)) x v1 v2 bY [] lz
 have ls:=pW (b.drop (ua+ud))
 have u3:=G8 (b.drop (ua+ud))
 generalize bY=Z at *
 rcases hS:vZ (b.drop (ua+ud)) with⟨s,us,es⟩
 rw[hS] at f3 ls u3
 simp only[List.length_drop] at *
 have q3:List.take (b.length - (ua+ud)) (List.drop (ua+ud) (aB b))=aB (b.drop (ua+ud)):=by rw[nW];exact List.take_of_length_le (by rw[aA,List.length_drop];omega)
 have q4:ua+ud+(b.length - (ua+ud))≤b.length:=by omega
 by_cases c3:es=0
 case neg=>
  rw[if_pos c3]
  have n3:v9 us es=0:=if_neg c3
  have z3:(es==0)=false:=by simpa using c3
  simp only
  refine fV Tryz.f53 (by kernel_rfl) (by decide) ?_
  conv in aJ _ _=>(reduce;simp only[aH,seval])
  unfold mD mE lW Vu dG at *
  simp only[NV,↓NP,seval]
  rw[aL]
  refine a8 (fun _ _ _ _ _ h=>h) (aN _ _) 5 ?_
  simp only[NV,↓NP,seval]
  refine aI [(0,0),(1,0),(3,0),(4,0)] f1 ?_
  simp only[rt,n1,z1,NV,NJ,↓NP,seval]
  refine aI [(0,0),(1,ua),(3,0),(4,0)] f2 ?_
  simp only[List.length_drop,Nat.sub_sub,rt,q1,q2,z1,NV,NJ,↓NP,seval]
  refine aI [(0,0),(1,ua+ud),(3,0),(4,0)] f3 ?_
  simp only[List.length_drop,rt,q3,q4,n3,z3,NV,NJ,↓NP,seval]
  exact⟨[(0,0),(1,0),(2,0),(3,0),(4,0)],by simp[rt,NF,seval]⟩
 subst c3
 have u3:=u3 rfl
 have n3:v9 us 0=us:=rfl
 have z3:((0:Int)==0)=true:=rfl
 rw[if_neg (fun h=>h rfl)]
 have f4:=h73 (tS:=tS) (b.drop (ua+ud+us)) x v1 v2 s [] ls (by rw[List.length_drop];omega)
 rcases hT:cJ (b.drop (ua+ud+us)) with⟨t,ut,et⟩
 rw[hT] at f4
 simp only[List.length_drop] at *
 have q5:List.take (b.length - (ua+ud+us)) (List.drop (ua+ud+us) (aB b))=aB (b.drop (ua+ud+us)):=by rw[nW];exact List.take_of_length_le (by rw[aA,List.length_drop];omega)
 have q6:ua+ud+us+(b.length - (ua+ud+us))≤b.length:=by omega
 generalize v9 ut et=av at *
 refine fV Tryz.f53 (by kernel_rfl) (by decide) ?_
 conv in aJ _ _=>(reduce;simp only[aH,seval])
 unfold mD mE lW Vu dG at *
 simp only[NV,↓NP,seval]
 rw[aL]
 refine a8 (fun _ _ _ _ _ h=>h) (aN _ _) 5 ?_
 simp only[NV,↓NP,seval]
 refine aI [(0,0),(1,0),(3,0),(4,0)] f1 ?_
 simp only[rt,n1,z1,NV,NJ,↓NP,seval]
 refine aI [(0,0),(1,ua),(3,0),(4,0)] f2 ?_
 simp only[List.length_drop,Nat.sub_sub,rt,q1,q2,z1,NV,NJ,↓NP,seval]
 refine aI [(0,0),(1,ua+ud),(3,0),(4,0)] f3 ?_
 simp only[List.length_drop,Nat.sub_sub,rt,q3,q4,n3,z1,NV,NJ,↓NP,seval]
 refine aI [(0,0),(1,ua+ud+us),(3,0),(4,0)] f4 ?_
 simp only[List.length_drop,Nat.sub_sub,rt,q5,q6,NV,NJ,↓NP,seval]
 exact⟨[(0,0),(1,0),(2,0),(3,0),(4,0)],by simp[rt,NF,seval]⟩
def BU (p:List UInt8) (ht:Int) (msg sig:List UInt8) (want:Int):Int:=if (rJ p ht msg sig).2=0∧(rJ p ht msg sig).1≠want then 8 else (rJ p ht msg sig).2
theorem h62 (p msg sig:List UInt8) (ht want:Int) (hp:p.length=16) (hm:msg.length≤2 ^ 40) (hs:sig.length≤2 ^ 30) :
  Fun Tryz.prog aO 62 [.agg (aB p),.str msg,.str sig,.int .i64 want,.ptr 0 0] [(0,⟨.view,[.int .i64 ht]⟩)] 1 (.int .i64 (BU p ht msg sig want)) [] 1:=by
 refine dK Tryz.f62 (by kernel_rfl) (fun _=>rfl) ?_
 conv in aJ _ _=>(reduce;simp only[aH,seval])
 have fv:=f41 p msg sig ht hp hm hs
 unfold BU
 unfold Il at fv
 generalize rJ p ht msg sig=V at *
 obtain⟨i,e⟩:=V
 simp only at *
 simp only[hp,NV,↓NP,seval]
 refine aE fv ?_
 by_cases he:e=0
 ·subst he
  by_cases hi:i=want
  ·subst hi
   have hi':(i != i)=false:=by simp
   simp only[hi',NV,NJ,↓NP,seval]
  ·have hi':(i != want)=true:=by simpa using hi
   simp only[hi,hi',NV,NJ,↓NP,seval]
 ·have c:(e==0)=false:=by simpa using he
  simp only[he,c,NV,NJ,↓NP,undef,seval]
def zW (P:List UInt8) (ht:Int) (M:List UInt8) (s t:Int) (R S:List UInt8):Int × Int:=
 if jH ht=0∨nT M s t S=false then (0,1) else
 let v:=xM S
 let e:=pK (S.length - v.2.2.2.2.1) v.2.2.2.2.2 (decide (0≤v.1) && decide (v.1 < jH ht * jH ht))
 if e≠0 then (0,e) else
 let e1:=BU P ht v.2.1 v.2.2.1 (v.1.tdiv (jH ht))
 if e1≠0 then (0,e1) else
 let e2:=BU v.2.1 ht (gZ M s t R) v.2.2.2.1 (v.1.tmod (jH ht))
 if e2≠0 then (0,e2) else (v.1,0)
theorem AA1 (P:List UInt8) (ht:Int) (M:List UInt8) (s t:Int) (R S:List UInt8) (hP:P.length=16) (hR:R.length=16) (hc:jH ht=0∨nT M s t S=false) :
  Fun Tryz.prog aO 21 [.agg (aB P),.int .i64 ht,.agg (dG M s t R S)] [] 0 (.tup [.int .i64 0,.int .i64 1]) [] 0:=by
 refine dK Tryz.f21 (by kernel_rfl) (fun _=>rfl) ?_
 conv in aJ _ _=>(reduce;simp only[aH,seval])
 have fw:=A9 (tS:=aO) ht
 have fv:=LQ (tS:=aO) M s t R S hR
 have tk:=fun x=>cP (x:=x) hR
 have fl:=dH R
 unfold dG at *
 by_cases h0:jH ht=0
 ·rw[h0] at fw
  simp only[NV,↓NP,seval]
  refine aE fw ?_
  simp only[NV,↓NP,undef,seval]
 ·have c0:(jH ht==0)=false:=by simpa using h0
  rw[hc.resolve_left h0] at fv
  simp only[NV,↓NP,seval]
  refine aE fw ?_
  simp only[hR,c0,tk,fl,NV,↓NP,seval]
  refine aE fv ?_
  simp only[fl,NV,↓NP,seval]
theorem VX (b:List UInt8):(xM b).2.2.2.2.1≤b.length:=by
 unfold xM
 simp only
 split
 ·exact Nat.zero_le _
 rename_i c1
 rcases hA:cR b with⟨x,ua,ea⟩
 rw[hA] at c1
 simp only at *
 obtain rfl:ea=0:=by simpa using c1
 have u1:=(sS hA).2.1
 split
 ·exact u1
 rename_i c2
 have u2:=G8 (b.drop ua) (by simpa using c2)
 rw[List.length_drop] at u2
 split
 ·simp only;omega
 rename_i c3
 rcases hS:cJ (b.drop (ua+(vZ (b.drop ua)).2.1)) with⟨s,us,es⟩
 rw[hS] at c3
 simp only at *
 obtain rfl:es=0:=by simpa using c3
 have u3:=mS hS rfl
 rw[List.length_drop] at u3
 rcases hT:cJ (b.drop (ua+(vZ (b.drop ua)).2.1+us)) with⟨t,ut,et⟩
 have u4:=mS hT
 rw[List.length_drop] at u4
 unfold v9
 simp only
 split
 ·have:=u4 (by assumption);omega
 ·omega
theorem Dt (b:List UInt8):(cJ b).1.length≤b.length:=by
 unfold cJ
 split
 ·exact Nat.zero_le _
 ·simp only[List.length_take,List.length_drop];omega
theorem S9 (b:List UInt8):(xM b).2.1.length=16∧(xM b).2.2.1.length≤b.length∧(xM b).2.2.2.1.length≤b.length:=by
 have hb:∀ k,(cJ (b.drop k)).1.length≤b.length:=fun k=>by
  have:=Dt (b.drop k)
  rw[List.length_drop] at this
  omega
 unfold xM
 simp only
 split
 ·exact⟨rfl,Nat.zero_le _,Nat.zero_le _⟩
 split
 ·exact⟨pW _,Nat.zero_le _,Nat.zero_le _⟩
 split
 ·exact⟨pW _,hb _,Nat.zero_le _⟩
 ·exact⟨pW _,hb _,hb _⟩
theorem QL (h:Int):0≤jH h∧jH h≤64:=by
 unfold jH
 split
 ·rename_i c
  obtain⟨k,rfl⟩:=Int.eq_ofNat_of_zero_le c.1
  have:k=0∨k=1∨k=2∨k=3∨k=4∨k=5∨k=6:=by omega
  rcases this with rfl|rfl|rfl|rfl|rfl|rfl|rfl <;> decide
 ·decide
theorem h21 (P:List UInt8) (ht:Int) (M:List UInt8) (s t:Int) (R S:List UInt8) (hP:P.length=16) (hR:R.length=16) (hS:S.length≤2 ^ 20) (hw:jH ht≠0) (hv:nT M s t S=true) :
  Fun Tryz.prog aO 21 [.agg (aB P),.int .i64 ht,.agg (dG M s t R S)] [] 0 (.tup [.int .i64 (zW P ht M s t R S).1,.int .i64 (zW P ht M s t R S).2]) [] 0:=by
 refine dK Tryz.f21 (by kernel_rfl) (fun _=>rfl) ?_
 conv in aJ _ _=>(reduce;simp only[aH,seval])
 have fw:=A9 (tS:=aO) ht
 have fc:=S7 (tS:=aO) ht
 have fv:=LQ (tS:=aO) M s t R S hR
 rw[hv] at fv
 have hM:M.length≤12:=by have:=of_decide_eq_true hv;omega
 have fx:=Vr (tS:=aO) M s t R S (by omega) hR
 have lx:=uR (M:=M) (R:=R) s t hM hR
 have fr:=AAz (tS:=aO) S (by omega)
 have tk:=fun x=>cP (x:=x) hR
 have fl:=dH R
 have ul:=VX S
 obtain⟨hd,hs1,hs2⟩:=S9 S
 have hWb:=QL ht
 have g:=zU (l:=[.str S]) hR
 unfold zW
 rw[if_neg (by rw[hv];simp[hw])]
 simp only
 have c0:(jH ht==0)=false:=by simpa using hw
 generalize gZ M s t R=X at *
 generalize jH ht=W at *
 rcases hV:xM S with⟨x,d,s1,s2,u,e⟩
 rw[hV] at fr ul hd hs1 hs2
 simp only at *
 have z:aB bY=[.int .u8 0,.int .u8 0,.int .u8 0,.int .u8 0,.int .u8 0,.int .u8 0,.int .u8 0,.int .u8 0,.int .u8 0,.int .u8 0,.int .u8 0,.int .u8 0,.int .u8 0,.int .u8 0,.int .u8 0,.int .u8 0]:=rfl
 unfold mV mW lW Vt at fr
 rw[z] at fr
 unfold dG at *
 simp only[NV,↓NP,seval]
 refine aE fw ?_
 simp only[hR,c0,tk,fl,NV,NJ,↓NP,seval]
 refine aE fv ?_
 simp only[fl,g,NV,↓NP,bC,seval]
 refine aI [(4,0),(3,0),(10,0),(5,0),(6,0),(7,0),(8,0),(9,0)] fr ?_
 have fe:=h61 (tS:=aO) S.length u e (decide (0≤x) && decide (x < W * W)) S rfl ul
 unfold lW at fe
 by_cases hx:0≤x
 case neg=>
  have i0:decide (0≤x)=false:=decide_eq_false hx
  have hx':¬ x ≥ 0:=hx
  have hE:pK (S.length - u) e false≠0:=by
   unfold pK
   split
   ·decide
   ·rename_i c;intro h;exact c ⟨h,.inr rfl⟩
  rw[i0] at fe ⊢
  simp only[Bool.false_and] at fe ⊢
  rw[if_pos hE]
  generalize pK (S.length - u) e false=E at *
  have hE':(E != 0)=true:=by simpa using hE
  simp only[hx',NV,NJ,↓NP,undef,seval]
  refine aI [(4,0),(3,0)] fe ?_
  simp only[hE',NV,NJ,↓NP,seval]
 have i0:decide (0≤x)=true:=decide_eq_true hx
 have hx':x ≥ 0:=hx
 rw[i0] at fe ⊢
 simp only[Bool.true_and] at fe ⊢
 have hE0:pK (S.length - u) e (decide (x < W * W))=0→x < W * W:=fun h=>by
  unfold pK at h
  split at h
  ·omega
  ·rename_i c
   subst h
   simp only[true_and,not_or,decide_eq_false_iff_not] at c
   exact Decidable.not_not.1 c.2
 generalize pK (S.length - u) e (decide (x < W * W))=E at *
 by_cases hE:E=0
 case neg=>
  rw[if_pos hE]
  have hE':(E != 0)=true:=by simpa using hE
  simp only[hx',NV,NJ,↓NP,seval]
  refine aE fc ?_
  simp only[NV,↓NP,seval]
  refine aI [(4,0),(3,0)] fe ?_
  simp only[hE',NV,NJ,↓NP,seval]
 subst hE
 rw[if_neg (fun h=>h rfl)]
 have hxW:=hE0 rfl
 obtain⟨W0,W6⟩:=hWb
 obtain⟨n,rfl⟩:=Int.eq_ofNat_of_zero_le hx
 obtain⟨k,rfl⟩:=Int.eq_ofNat_of_zero_le W0
 have hkk:(k:Int) * (k:Int)≤64 * 64:=Int.mul_le_mul W6 W6 (by omega) (by omega)
 have q1:IntKind.i64.wrap ((n:Int).tdiv (k:Int))=(n:Int).tdiv (k:Int):=by
  have hd:=Nat.div_le_self n k
  rw[show (n:Int).tdiv (k:Int)=((n / k:Nat):Int) from rfl,Aa (by omega)]
 have c4:¬ (k:Int)=0:=hw
 have f1:=h62 P d s1 ht ((n:Int).tdiv (k:Int)) hP (by omega) (by omega)
 have f2:=h62 d X s2 ht ((n:Int).tmod (k:Int)) hd (by omega) (by omega)
 generalize BU P ht d s1 ((n:Int).tdiv (k:Int))=E1 at *
 generalize BU d ht X s2 ((n:Int).tmod (k:Int))=E2 at *
 simp only[hx',NV,NJ,↓NP,seval]
 refine aE fc ?_
 simp only[NV,↓NP,seval]
 refine aI [(4,0),(3,0)] fe ?_
 simp only[hP,hd,q1,c4,NV,NJ,↓NP,seval]
 refine aI [(1,0)] f1 ?_
 by_cases h1:E1=0
 case neg=>
  have h1':(E1 != 0)=true:=by simpa using h1
  simp only[h1,h1',NV,NJ,↓NP,seval]
 subst h1
 simp only[hR,hd,tk,fl,NV,NJ,↓NP,seval]
 refine aE fx ?_
 simp only[c4,fl,NV,NJ,↓NP,seval]
 refine aI [(1,0)] f2 ?_
 by_cases h2:E2=0
 case neg=>
  have h2':(E2 != 0)=true:=by simpa using h2
  simp only[h2,h2',NV,NJ,↓NP,seval]
 subst h2
 simp only[NV,NJ,↓NP,seval]
theorem BV (P:List UInt8) (ht:Int) (M:List UInt8) (s t:Int) (R S:List UInt8) (hP:P.length=16) (hR:R.length=16) (hS:S.length≤2 ^ 20) :
  Fun Tryz.prog aO 21 [.agg (aB P),.int .i64 ht,.agg (dG M s t R S)] [] 0 (.tup [.int .i64 (zW P ht M s t R S).1,.int .i64 (zW P ht M s t R S).2]) [] 0:=by
 by_cases hc:jH ht=0∨nT M s t S=false
 ·have e:zW P ht M s t R S=(0,1):=if_pos hc
  rw[e]
  exact AA1 P ht M s t R S hP hR hc
 ·rw[not_or] at hc
  exact h21 P ht M s t R S hP hR hS hc.1 (by simpa using hc.2)
def Du (b:List UInt8):Int:=pK (b.length - (BT b).2.2.2.2.2.1) (BT b).2.2.2.2.2.2 (nT (BT b).1 (BT b).2.1 (BT b).2.2.1 (BT b).2.2.2.2.1)
def Gt (b:List UInt8):List SV:=if Du b=0 then dG (BT b).1 (BT b).2.1 (BT b).2.2.1 (BT b).2.2.2.1 (BT b).2.2.2.2.1 else y7
theorem Sa (b:List UInt8):(BT b).2.2.2.1.length=16:=by
 unfold BT
 simp only
 split
 ·rfl
 split
 ·rfl
 split
 ·exact pW _
 ·exact pW _
theorem VY (b:List UInt8):(BT b).2.2.2.2.2.1≤b.length:=by
 unfold BT
 simp only
 rcases hA:cJ b with⟨x,ua,ea⟩
 have u1:=mS hA
 simp only
 split
 ·exact Nat.zero_le _
 rename_i c1
 have u1:=u1 (by simpa using c1)
 have u2:=Js (b.drop ua) 0 0
 rcases hD:xN (b.drop ua) 0 0 with⟨v1,v2,ud,ed⟩
 rw[hD] at u2
 rw[List.length_drop] at u2
 simp only at *
 split
 ·simp only;omega
 split
 ·simp only;omega
 rename_i c3
 have u3:=G8 (b.drop (ua+ud)) (by simpa using c3)
 rw[List.length_drop] at u3
 rcases hT:cJ (b.drop (ua+ud+(vZ (b.drop (ua+ud))).2.1)) with⟨t,ut,et⟩
 have u4:=mS hT
 rw[List.length_drop] at u4
 unfold v9
 simp only
 split
 ·have:=u4 (by assumption);omega
 ·omega
theorem Sb {M:List UInt8} {s t:Int} {R S:List UInt8} (hR:R.length=16):(dG M s t R S).length=20:=by simp[dG,aA,hR]
theorem h28 (b:List UInt8) (hb:b.length≤2 ^ 36):Fun Tryz.prog aO 28 [.str b] [] 0 (.tup [.agg (Gt b),.int .i64 (Du b)]) [] 0:=by
 have hren:∀ η:Nat→Nat × Nat,SV.renL η (Gt b)=Gt b:=fun η=>by
  unfold Gt
  split
  ·simp only[dG,SV.renL,SV.ren,mR]
  ·simp only[y7,dG,SV.renL,SV.ren,mR]
 refine dK Tryz.f28 (by kernel_rfl) (fun η=>by simp only[SV.ren,SV.renL,hren]) ?_
 clear hren
 conv in aJ _ _=>(reduce;simp only[aH,seval])
 have fr:=AA0 (tS:=aO) b hb
 have hR:=Sa b
 have ul:=VY b
 unfold Gt Du
 rcases hV:BT b with⟨M,s,t,R,S,u,e⟩
 rw[hV] at fr hR ul
 simp only at *
 have fv:=LQ (tS:=aO) M s t R S hR
 have fe:=h61 (tS:=aO) b.length u e (nT M s t S) b rfl ul
 generalize nT M s t S=V at *
 generalize pK (b.length - u) e V=E at *
 have tk:=fun x=>cP (x:=x) hR
 have fl:=dH R
 have rt:=fun η x=>mR η R x
 have z:aB bY=[.int .u8 0,.int .u8 0,.int .u8 0,.int .u8 0,.int .u8 0,.int .u8 0,.int .u8 0,.int .u8 0,.int .u8 0,.int .u8 0,.int .u8 0,.int .u8 0,.int .u8 0,.int .u8 0,.int .u8 0,.int .u8 0]:=rfl
 unfold mD mE lW Vu dG at fr
 unfold y7 dG lW at *
 rw[z] at fr ⊢
 simp only[List.cons_append,List.nil_append] at fr ⊢
 by_cases hE:E=0
 ·subst hE
  rw[if_pos rfl]
  simp only[NV,↓NP,bC,seval]
  refine aI [(2,0),(1,0),(5,0),(3,0),(4,0)] fr ?_
  simp only[hR,tk,fl,rt,NV,NJ,↓NP,seval]
  refine aE fv ?_
  simp only[fl,NV,↓NP,seval]
  refine aI [(2,0),(1,0)] fe ?_
  simp only[hR,tk,NV,NJ,↓NP,bC,seval]
 ·rw[if_neg hE]
  have hE':(E != 0)=true:=by simpa using hE
  simp only[NV,↓NP,bC,seval]
  refine aI [(2,0),(1,0),(5,0),(3,0),(4,0)] fr ?_
  simp only[hR,tk,fl,rt,NV,NJ,↓NP,seval]
  refine aE fv ?_
  simp only[fl,NV,↓NP,seval]
  refine aI [(2,0),(1,0)] fe ?_
  simp only[hE',NV,NJ,↓NP,bC,seval]
def VZ (va vb:Int × Int) (x y:List UInt8):Bool:=decide (va.2=0) && decide (vb.2=0) && decide (va.1=vb.1) && (x != y)
theorem h23 (P:List UInt8) (ht:Int) (M:List UInt8) (s t:Int) (R S:List UInt8) (M':List UInt8) (s' t':Int) (R' S':List UInt8) (hP:P.length=16) (hR:R.length=16) (hS:S.length≤2 ^ 20) (hR':R'.length=16) (hS':S'.length≤2 ^ 20)
  (hM:M.length≤2 ^ 20) (hM':M'.length≤2 ^ 20) :
  Fun Tryz.prog aO 23 [.agg (aB P),.int .i64 ht,.agg (dG M s t R S),.agg (dG M' s' t' R' S')] [] 0 (.bool (VZ (zW P ht M s t R S) (zW P ht M' s' t' R' S') (gZ M s t R) (gZ M' s' t' R'))) [] 0:=by
 refine dK Tryz.f23 (by kernel_rfl) (fun _=>rfl) ?_
 conv in aJ _ _=>(reduce;simp only[aH,seval])
 have fa:=BV P ht M s t R S hP hR hS
 have fb:=BV P ht M' s' t' R' S' hP hR' hS'
 have ga:=Vr (tS:=aO) M s t R S hM hR
 have gb:=Vr (tS:=aO) M' s' t' R' S' hM' hR'
 generalize gZ M s t R=X at *
 generalize gZ M' s' t' R'=Y at *
 generalize zW P ht M s t R S=A at *
 generalize zW P ht M' s' t' R' S'=B at *
 obtain⟨i,e⟩:=A
 obtain⟨j,f⟩:=B
 have tk:=fun x=>cP (x:=x) hR
 have fl:=dH R
 have tk':=fun x=>cP (x:=x) hR'
 have fl':=dH R'
 unfold dG VZ at *
 simp only at *
 simp only[hP,hR,tk,fl,NV,↓NP,seval]
 refine aE fa ?_
 simp only[hP,hR',tk',fl,fl',NV,↓NP,seval]
 refine aE fb ?_
 by_cases he:e=0
 case neg=>
  have z:(e==0)=false:=by simpa using he
  simp only[z,he,Bool.false_and,fl',NV,↓NP,undef,seval]
 subst he
 by_cases hf:f=0
 case neg=>
  have z:(f==0)=false:=by simpa using hf
  simp only[z,hf,Bool.false_and,fl',NV,↓NP,undef,seval]
 subst hf
 by_cases hij:i=j
 case neg=>
  have z:(i==j)=false:=by simpa using hij
  simp only[z,hij,Bool.false_and,fl',NV,↓NP,undef,seval]
 subst hij
 simp only[hR,tk,fl,fl',NV,↓NP,seval]
 refine aE ga ?_
 simp only[hR',tk',fl,fl',NV,↓NP,seval]
 refine aE gb ?_
 simp only[fl',NV,↓NP,seval]
 rfl
theorem L8 (seed:List UInt8) (h i:Nat) (msg:List UInt8):mQ seed h i msg=BW (i:Int) (pA (gM seed (i:Int)) (dE 6 [rL seed h,aP (i:Int),msg])) h (kY h (eS seed h) i):=rfl
theorem Sl (P msg G Y:List UInt8) (h i:Nat) (hh:h≤6) (hi:i < 2 ^ h) (hm:msg.length≤1048576) (hG:G.length=560) (lY:Y.length=16 * h) :
  rJ P (h:Int) msg (BW (i:Int) G h Y)=if nV (fW i (tJ (dE 6 [P,aP (i:Int),msg]) G) Y h)==P then ((i:Int),0) else (0,8):=by
 rw[CT hh hm]
 have n64:2 ^ h≤64:=by have:=(y6 hh).1;unfold P2 at this;omega
 have d1:=vP (n:=(i:Int)) ⟨by omega,by omega⟩ (bU G++(aP (h:Int)++Y))
 have d2:=yM (s:=G) (q:=aP (h:Int)++Y) (by omega)
 have d3:=vP (n:=(h:Int)) ⟨by omega,by omega⟩ Y
 have hsg:BW (i:Int) G h Y=aP (i:Int)++(bU G++(aP (h:Int)++Y)):=by unfold BW;rw[List.append_assoc]
 have hc16:fT (aP (h:Int)++Y) 16=0:=by
  unfold fT
  rw[d3]
  simp only
  rw[if_neg (by simp),if_neg (by omega),if_neg]
  rw[List.length_append,lY,Nat.add_sub_cancel_left,Nat.mul_div_cancel_left _ (by decide)]
  omega
 have hN:kB (aP (h:Int)++Y)=h:=by unfold kB;rw[if_neg (by simpa using hc16),d3];simp
 have hU:uP (aP (h:Int)++Y)=(aP (h:Int)).length+16 * h:=by unfold uP;rw[if_neg (by simpa using hc16),d3];simp
 have hXx:rU (aP (h:Int)++Y)=Y:=by
  unfold rU
  rw[if_neg (by simpa using hc16),d3]
  simp only[List.drop_left,Int.toNat_natCast]
  exact List.take_of_length_le (by omega)
 have hg:pD (BW (i:Int) G h Y)=⟨(i:Int),(aP (i:Int)).length,0,G,(bU G).length,0,h,(aP (h:Int)).length+16 * h,0,Y⟩:=by
  unfold pD
  rw[hsg,d1]
  simp only[List.drop_left]
  rw[d2]
  simp only
  rw[← List.drop_drop,List.drop_left,List.drop_left,hN,hU,hXx,hc16]
 rw[hg]
 simp only[Int.toNat_natCast]
 rw[if_neg (by simp),if_neg (by simp),if_neg (by simp),if_neg,if_neg (by omega)]
 ·have hl:(BW (i:Int) G h Y).length=(aP (i:Int)).length+(bU G).length+((aP (h:Int)).length+16 * h):=by
   rw[hsg];simp only[List.length_append,lY];omega
  unfold P2
  omega
theorem L9 {d q:List UInt8} (h:d.length=16):vZ (d++q)=(d,16,0):=by
 unfold vZ
 rw[if_neg (by rw[List.length_append];omega),List.take_left' h]
theorem La (i:Nat) (hi:i < 9223372036854775808) (d s t:List UInt8) (hd:d.length=16) (hs:s.length < 9223372036854775808) (ht:t.length < 9223372036854775808) :
  xM (aP (i:Int)++d++bU s++bU t)=((i:Int),d,s,t,(aP (i:Int)++d++bU s++bU t).length,0):=by
 have d1:=vP (n:=(i:Int)) ⟨by omega,by omega⟩ (d++(bU s++bU t))
 have e0:aP (i:Int)++d++bU s++bU t=aP (i:Int)++(d++(bU s++bU t)):=by simp only[List.append_assoc]
 have d3:=yM (s:=s) (q:=bU t) hs
 have d4:=yM (s:=t) (q:=[]) ht
 rw[List.append_nil] at d4
 rw[e0]
 unfold xM
 rw[d1]
 simp only
 rw[if_neg (by simp),List.drop_left,L9 hd]
 simp only
 rw[if_neg (by simp),← List.drop_drop,List.drop_left,List.drop_left' hd,d3]
 simp only
 rw[if_neg (by simp),← List.drop_drop,← List.drop_drop,List.drop_left,List.drop_left' hd,List.drop_left,d4]
 simp only[v9,if_true,List.length_append,hd,Prod.mk.injEq,true_and,and_true]
 omega
theorem Ac (seed:List UInt8) (h i:Nat) (M:List UInt8) (s t:Int) (R:List UInt8) (hh:h≤2):(Gs seed h i M s t R).length≤5000:=by
 unfold Gs
 have e1:=aS (i:Int)
 have e2:=dJ h (eS (uQ seed ((i / 2 ^ h:Nat):Int)) h)
 generalize dM h (eS (uQ seed ((i / 2 ^ h:Nat):Int)) h)=K at *
 have s1:=kM (BS seed) h (i / 2 ^ h) K hh
 have s2:=kM (uQ seed ((i / 2 ^ h:Nat):Int)) h (i % 2 ^ h) (gZ M s t R) hh
 generalize mQ (BS seed) h (i / 2 ^ h) K=A at *
 generalize mQ (uQ seed ((i / 2 ^ h:Nat):Int)) h (i % 2 ^ h) (gZ M s t R)=B at *
 have a1:=aS (A.length:Int)
 have b1:=aS (B.length:Int)
 simp only[List.length_append,bU]
 omega
theorem Gb {seed msg:List UInt8} {h i:Nat} (hh:h≤6) (hi:i < 2 ^ h) (hm:msg.length≤1048576):BU (rL seed h) (h:Int) msg (mQ seed h i msg) (i:Int)=0:=by
 have A:=QS seed msg h i hh hi hm
 unfold BU
 rw[L8,A]
 simp
theorem Gc:pK 0 0 true=0:=by simp[pK]
theorem V3 (seed:List UInt8) (h i:Nat) (M:List UInt8) (s t:Int) (R:List UInt8) (hh:h≤2) (hi:i < 2 ^ h * 2 ^ h) (hv:nT M s t []=true) (hR:R.length=16) :
  zW (zV seed h) (h:Int) M s t R (Gs seed h i M s t R)=((i:Int),0):=by
 have hp:=Nat.two_pow_pos h
 have lm:=Ac seed h i M s t R hh
 have hv':nT M s t (Gs seed h i M s t R)=true:=by
  have h1:=of_decide_eq_true hv
  exact decide_eq_true (by omega)
 have hM:M.length≤12:=by have:=of_decide_eq_true hv;omega
 have lx:=uR (M:=M) (R:=R) s t hM hR
 have n4:2 ^ h≤4:=Nat.le_trans (Nat.pow_le_pow_right (by decide) hh) (by decide)
 have uT:2 ^ h * 2 ^ h≤4 * 4:=Nat.mul_le_mul n4 n4
 unfold zW
 have hw:jH (h:Int)≠0:=by rw[oM (by omega)];omega
 rw[if_neg (by rw[hv'];simp[hw])]
 have lK:=dJ h (eS (uQ seed ((i / 2 ^ h:Nat):Int)) h)
 have s1:=kM (BS seed) h (i / 2 ^ h) (dM h (eS (uQ seed ((i / 2 ^ h:Nat):Int)) h)) hh
 have s2:=kM (uQ seed ((i / 2 ^ h:Nat):Int)) h (i % 2 ^ h) (gZ M s t R) hh
 have A1:=Gb (seed:=BS seed) (msg:=dM h (eS (uQ seed ((i / 2 ^ h:Nat):Int)) h)) (h:=h) (i:=i / 2 ^ h) (by omega) (Nat.div_lt_of_lt_mul hi) (by omega)
 have A2:=Gb (seed:=uQ seed ((i / 2 ^ h:Nat):Int)) (msg:=gZ M s t R) (h:=h) (i:=i % 2 ^ h) (by omega) (Nat.mod_lt _ hp) (by omega)
 have hr:=La i (by omega) (dM h (eS (uQ seed ((i / 2 ^ h:Nat):Int)) h)) (mQ (BS seed) h (i / 2 ^ h) (dM h (eS (uQ seed ((i / 2 ^ h:Nat):Int)) h))) (mQ (uQ seed ((i / 2 ^ h:Nat):Int)) h (i % 2 ^ h) (gZ M s t R)) lK (by omega) (by omega)
 unfold Gs
 rw[hr,oM (by omega)]
 simp only[Nat.sub_self]
 have c1:(decide ((0:Int)≤(i:Int)) && decide ((i:Int) < ((2 ^ h:Nat):Int) * ((2 ^ h:Nat):Int)))=true:=by
  rw[← Int.natCast_mul,decide_eq_true (show (0:Int)≤(i:Int) by omega),decide_eq_true (show (i:Int) < ((2 ^ h * 2 ^ h:Nat):Int) by omega)]
  rfl
 rw[c1,Gc,if_neg (by simp)]
 rw[show (i:Int).tdiv ((2 ^ h:Nat):Int)=((i / 2 ^ h:Nat):Int) from rfl,show (i:Int).tmod ((2 ^ h:Nat):Int)=((i % 2 ^ h:Nat):Int) from rfl]
 rw[show zV seed h=rL (BS seed) h from rfl,A1,if_neg (by simp)]
 rw[show dM h (eS (uQ seed ((i / 2 ^ h:Nat):Int)) h)=rL (uQ seed ((i / 2 ^ h:Nat):Int)) h from rfl,A2,if_neg (by simp)]
theorem Sm (M:List UInt8) (s t:Int) (R S:List UInt8) (hM:M.length < 9223372036854775808) (hs:kJ s) (ht:kJ t) (hR:R.length=16) (hS:S.length < 9223372036854775808) :
  BT (pE M s t R S)=(M,s,t,R,S,(pE M s t R S).length,0):=by
 have e0:pE M s t R S=bU M++(i8 [s,t]++(R++bU S)):=by unfold pE;simp only[List.append_assoc]
 have d1:=yM (s:=M) (q:=i8 [s,t]++(R++bU S)) hM
 have d2:=QH (l:=[s,t]) (r:=R++bU S) (by simp[hs,ht]) (by simp)
 have d4:=yM (s:=S) (q:=[]) hS
 rw[List.append_nil] at d4
 have n2:xN (i8 [s,t]++(R++bU S)) 0 0=(s,t,(i8 [s,t]).length,0):=by
  unfold xN
  rw[d2]
  simp
 rw[e0]
 unfold BT
 rw[d1]
 simp only
 rw[if_neg (by simp),List.drop_left,n2]
 simp only
 rw[if_neg (by simp),← List.drop_drop,List.drop_left,List.drop_left,L9 hR]
 simp only
 rw[if_neg (by simp),← List.drop_drop,← List.drop_drop,List.drop_left,List.drop_left,List.drop_left' hR,d4]
 simp only[v9,if_true,List.length_append,hR,Prod.mk.injEq,true_and,and_true]
 omega
theorem Tc (M:List UInt8) (s t:Int) (R S:List UInt8) (hv:nT M s t S=true) (hR:R.length=16):Du (pE M s t R S)=0∧Gt (pE M s t R S)=dG M s t R S:=by
 have hb:=of_decide_eq_true hv
 have hr:=Sm M s t R S (by omega) ⟨by omega,by omega⟩ ⟨by omega,by omega⟩ hR (by omega)
 have e1:Du (pE M s t R S)=0:=by
  unfold Du
  rw[hr]
  simp only[Nat.sub_self]
  rw[hv,Gc]
 refine⟨e1,?_⟩
 unfold Gt
 rw[if_pos e1,hr]
end Go.Proofs.YtmhkkalbijbplaaGreatDoor
