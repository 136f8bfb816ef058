/- The law HeadMakeMatchesSpec of layer 41, as the statement has it: it holds of the program. -/
import Derived.Test.YtmhkkalbijbplaaGreatDoorVz
set_option linter.unusedSimpArgs false
set_option linter.unusedVariables false
set_option maxRecDepth 100000
set_option maxHeartbeats 16000000
/- The law HeadMakeMatchesSpec of layer 41, as the statement has it: it holds of the program. -/
namespace Go.Proofs.YtmhkkalbijbplaaGreatDoor
open Go Go.Sx Go.ChangeShapes Go.WideShapes
/-- a head among the arguments -/
theorem hd_of {n n':Nat} {vs:List SV} {m:bL} (h:vX (.t .s :: .t (.i .i64) :: .t (.i .i64) :: (List.replicate 16 (.t (.i .u8))++[.t .s])) n vs m n') :
  ∃ (M:List UInt8) (s t:Int) (R S:List UInt8),(R.length=16∧kJ s∧kJ t)∧vs=dG M s t R S∧m=[]∧n'=n:=by
 simp only[vX,jP] at h
 obtain⟨_,_,rfl,⟨M,rfl,_⟩,_,_,rfl,⟨s,rfl,hs⟩,_,_,rfl,⟨t,rfl,ht⟩,h⟩:=h
 obtain⟨R,vs1,hR,rfl,h1⟩:=pR 16 h
 simp only[vX,jP] at h1
 obtain⟨_,_,rfl,⟨S,rfl,_⟩,rfl,rfl,rfl⟩:=h1
 exact⟨M,s,t,R,S,⟨hR,iI hs,iI ht⟩,rfl,rfl,rfl⟩
/-- the witness -/
def wH:Value:=.agg (Value.string ⟨#[]⟩ :: .int .i64 0 :: .int .i64 0 :: (List.replicate 16 (Value.int .u8 0)++[Value.string ⟨#[]⟩])).toArray
def wHd {H:Type}:DataW H:=.agg [.lit (.string []),.lit (.int .i64 0),.lit (.int .i64 0),.agg (List.replicate 16 (.lit (.int .u8 0))),.lit (.string [])]
theorem make_met (os:Os):laidMet Tryz.prog Rows.headMakeMatchesSpecRow.laid ((dZ os).forCall (fun _ _=>0) ⟨#[],#[.string ⟨#[]⟩,.agg #[.int .i64 0,.int .i64 0],wH],[]⟩).memory:=
 laidMet_of_run' 8 (by kernel_rfl) (by kernel_rfl)
theorem make_reads (os:Os) {H:Type} (enc:TypeId × Value→H):∃ places,DataW.whole enc Tryz.prog ((dZ os).forCall (fun _ _=>0) ⟨#[],#[.string ⟨#[]⟩,.agg #[.int .i64 0,.int .i64 0],wH],[]⟩).memory Tryz.f3.params.toList Rows.headMakeMatchesSpecSpec.vars false
  (#[.string ⟨#[]⟩,.agg #[.int .i64 0,.int .i64 0],wH]:Array Value).toList 8=some ([.lit (.string []),.agg [.lit (.int .i64 0),.lit (.int .i64 0)],wHd],[],places):=
 ⟨[],by kernel_rfl⟩
theorem make_lay:oF Tryz.prog 8 Tryz.f3.params.toList=some [(false,[.t .s]),(true,[.t (.i .i64),.t (.i .i64)]),(true,(.t .s :: .t (.i .i64) :: .t (.i .i64) :: (List.replicate 16 (.t (.i .u8))++[.t .s])))]:=by kernel_rfl
theorem make_spec {H:Type}:∀ ds:List (DataW H),ds.length=Tryz.f3.params.toList.length→(Rows.headMakeMatchesSpecSpec.fn H ds).results=[.lit (.bool true)]∧(Rows.headMakeMatchesSpecSpec.fn H ds).args=ds∧(Rows.headMakeMatchesSpecSpec.fn H ds).vars=[]:=by
 intro ds h
 have e:Tryz.f3.params.toList.length=3:=by kernel_rfl
 rw[e] at h
 match ds,h with
 | [d1,d2,d3],_=>exact⟨rfl,rfl,rfl⟩
theorem make_fun:∀ svs m n,yS [(false,[.t .s]),(true,[.t (.i .i64),.t (.i .i64)]),(true,(.t .s :: .t (.i .i64) :: .t (.i .i64) :: (List.replicate 16 (.t (.i .u8))++[.t .s])))] 0 svs m n→Fun Tryz.prog aO 3 svs m n (.bool true) [] n:=by
 intro svs m n h
 simp only[yS] at h
 obtain⟨_,_,_,_,_,rfl,rfl,h1,_,_,_,_,_,rfl,rfl,h2,_,_,_,_,_,rfl,rfl,g3,rfl,rfl,rfl⟩:=h
 simp only[vX,jP] at h1 h2
 obtain⟨_,_,e1,⟨x,rfl,_⟩,rfl,rfl,rfl⟩:=h1
 cases e1
 obtain⟨_,_,rfl,⟨a,rfl,_⟩,_,_,rfl,⟨b,rfl,_⟩,rfl,rfl,rfl⟩:=h2
 obtain⟨M,s,t,R,S,⟨hR,hs,ht⟩,rfl,rfl,rfl⟩:=hd_of g3
 exact h3 x a b M s t R S hR hs ht
theorem make_lifted (os:Os) (started:os.Started) (H:Type) (enc:TypeId × Value→H) (F:Stop.Interp) :
  ReturnsInHanded {} Tryz.checked os 3 .any ((OpenSpec.ofChange Rows.headMakeMatchesSpecSpec).preRow enc Tryz.prog Tryz.f3 Rows.headMakeMatchesSpecRow.domain false Rows.headMakeMatchesSpecRow.laid) (((OpenSpec.ofChange Rows.headMakeMatchesSpecSpec).at F).post enc Tryz.prog Tryz.f3 false true false false):=by
 obtain⟨places,hx⟩:=make_reads os enc
 refine returnsInHanded_of_row (C:=Tryz.checked) (s:=OpenSpec.ofChange Rows.headMakeMatchesSpecSpec) own started (by kernel_rfl) Tryz.func3
  (witness_row_at (enc:=enc) (C:=Tryz.checked) false (dZ os) #[.string ⟨#[]⟩,.agg #[.int .i64 0,.int .i64 0],wH] rfl (by kernel_rfl) (by kernel_rfl) (by kernel_rfl)
   (OpenSpec.preRow_of_cond 8 hx (by kernel_rfl) (fun k hk=>by cases hk) (by kernel_rfl) (make_met os))) ?_
 intro W base args ds gs before hval hW _ _ _ hL _ _
 exact oH (d:=8) (tb:=4) (s:=Rows.headMakeMatchesSpecSpec) make_lay rfl (by kernel_rfl) FA make_spec make_fun (zK hL) (yD hL) hval hW
theorem make_said:Rows.HeadMakeMatchesSpecSaid:=
 OpenClaim.holds_of_cond 3 Tryz.f3 rfl rfl rfl rfl rfl rfl rfl ⟨rfl,rfl,rfl,rfl,rfl⟩ rfl rfl rfl rfl rfl (by kernel_rfl) Tryz.func3 (by kernel_rfl)
  (of_decide_eq_true (by kernel_rfl)) (by unfold Func.isWrapper;first|(rw[if_pos (by decide +kernel)];kernel_rfl)|(rw[if_neg (by decide +kernel)];exact⟨rfl,rfl⟩))
  (fun os started H enc _ F=>by rw[OpenClaim.pre_eq_preRow];exact make_lifted os started H enc F)
theorem make_plain (f:FuncId) (fn:Func) (hf:Tryz.pinned.checked.prog.funcNamed Rows.headMakeMatchesSpecRow.func=some f) (hfn:Tryz.pinned.checked.prog.funcs[f]?=some fn) :
  false=Tryz.pinned.checked.prog.looks []∧∀ (j:Nat) t,fn.params[j]?=some t→Tryz.pinned.checked.prog.wantsStandIn t=false:=by
 obtain rfl:f=3:=Option.some.inj ((show Tryz.prog.funcNamed Rows.headMakeMatchesSpecRow.func=some 3 by kernel_rfl).symm.trans hf) |>.symm
 obtain rfl:fn=Tryz.f3:=(Option.some.inj (Tryz.func3.symm.trans hfn)).symm
 refine⟨by kernel_rfl,fun j t ht=>?_⟩
 have h:(Tryz.f3.params.toList.all fun t=>!Tryz.prog.wantsStandIn t)=true:=by kernel_rfl
 have:=List.all_eq_true.1 h t (by simpa using Array.mem_of_getElem? ht)
 exact (show Tryz.prog.wantsStandIn t=false by simpa using this)
/-- HeadMakeMatchesSpec holds of the program -/
theorem make_card:Rows.HeadMakeMatchesSpecCardSaid:=
 Claim7.holds_tied_plain_at .later [] _ _ _ _ make_said (fun _ h=>by cases h) (by kernel_rfl) (fun _ h=>by cases h) headMakeMatchesSpec_row_tie rfl ⟨rfl,rfl⟩ (by kernel_rfl) rfl make_plain (by kernel_rfl)
end Go.Proofs.YtmhkkalbijbplaaGreatDoor
