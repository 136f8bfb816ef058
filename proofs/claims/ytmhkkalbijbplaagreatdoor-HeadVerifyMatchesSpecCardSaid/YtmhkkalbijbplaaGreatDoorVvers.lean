/- The law HeadVerifyMatchesSpec of layer 41, as the statement has it: it holds of the program. -/
import Derived.Test.YtmhkkalbijbplaaGreatDoorVy
set_option linter.unusedSimpArgs false
set_option linter.unusedVariables false
set_option maxRecDepth 100000
set_option maxHeartbeats 16000000
/- The law HeadVerifyMatchesSpec of layer 41, as the statement has it: it holds of the program. -/
namespace Go.Proofs.YtmhkkalbijbplaaGreatDoor
open Go Go.Sx Go.ChangeShapes Go.WideShapes
/-- a head among the arguments -/
theorem hd_of {n n':Nat} {vs:List SV} {m:bL} (h:vX (.t .s :: .t (.i .i64) :: .t (.i .i64) :: (List.replicate 16 (.t (.i .u8))++[.t .s])) n vs m n') :
  ∃ (M:List UInt8) (s t:Int) (R S:List UInt8),(R.length=16∧kJ s∧kJ t)∧vs=dG M s t R S∧m=[]∧n'=n:=by
 simp only[vX,jP] at h
 obtain⟨_,_,rfl,⟨M,rfl,_⟩,_,_,rfl,⟨s,rfl,hs⟩,_,_,rfl,⟨t,rfl,ht⟩,h⟩:=h
 obtain⟨R,vs1,hR,rfl,h1⟩:=pR 16 h
 simp only[vX,jP] at h1
 obtain⟨_,_,rfl,⟨S,rfl,_⟩,rfl,rfl,rfl⟩:=h1
 exact⟨M,s,t,R,S,⟨hR,iI hs,iI ht⟩,rfl,rfl,rfl⟩
/-- the witness -/
def wH:Value:=.agg (Value.string ⟨#[]⟩ :: .int .i64 0 :: .int .i64 0 :: (List.replicate 16 (Value.int .u8 0)++[Value.string ⟨#[]⟩])).toArray
def wHd {H:Type}:DataW H:=.agg [.lit (.string []),.lit (.int .i64 0),.lit (.int .i64 0),.agg (List.replicate 16 (.lit (.int .u8 0))),.lit (.string [])]
theorem vers_met (os:Os):laidMet Tryz.prog Rows.headVerifyMatchesSpecRow.laid ((dZ os).forCall (fun _ _=>0) ⟨#[],#[.agg (List.replicate 16 (Value.int .u8 0)).toArray,.int .i64 0,wH,wH],[]⟩).memory:=
 laidMet_of_run' 8 (by kernel_rfl) (by kernel_rfl)
theorem vers_reads (os:Os) {H:Type} (enc:TypeId × Value→H):∃ places,DataW.whole enc Tryz.prog ((dZ os).forCall (fun _ _=>0) ⟨#[],#[.agg (List.replicate 16 (Value.int .u8 0)).toArray,.int .i64 0,wH,wH],[]⟩).memory Tryz.f4.params.toList Rows.headVerifyMatchesSpecSpec.vars false
  (#[.agg (List.replicate 16 (Value.int .u8 0)).toArray,.int .i64 0,wH,wH]:Array Value).toList 8=some ([.agg (List.replicate 16 (.lit (.int .u8 0))),.lit (.int .i64 0),wHd,wHd],[],places):=
 ⟨[],by kernel_rfl⟩
theorem vers_lay:oF Tryz.prog 8 Tryz.f4.params.toList=some [(true,List.replicate 16 (.t (.i .u8))),(false,[.t (.i .i64)]),(true,(.t .s :: .t (.i .i64) :: .t (.i .i64) :: (List.replicate 16 (.t (.i .u8))++[.t .s]))),(true,(.t .s :: .t (.i .i64) :: .t (.i .i64) :: (List.replicate 16 (.t (.i .u8))++[.t .s])))]:=by kernel_rfl
theorem vers_spec {H:Type}:∀ ds:List (DataW H),ds.length=Tryz.f4.params.toList.length→(Rows.headVerifyMatchesSpecSpec.fn H ds).results=[.lit (.bool true)]∧(Rows.headVerifyMatchesSpecSpec.fn H ds).args=ds∧(Rows.headVerifyMatchesSpecSpec.fn H ds).vars=[]:=by
 intro ds h
 have e:Tryz.f4.params.toList.length=4:=by kernel_rfl
 rw[e] at h
 match ds,h with
 | [d1,d2,d3,d4],_=>exact⟨rfl,rfl,rfl⟩
theorem vers_fun:∀ svs m n,yS [(true,List.replicate 16 (.t (.i .u8))),(false,[.t (.i .i64)]),(true,(.t .s :: .t (.i .i64) :: .t (.i .i64) :: (List.replicate 16 (.t (.i .u8))++[.t .s]))),(true,(.t .s :: .t (.i .i64) :: .t (.i .i64) :: (List.replicate 16 (.t (.i .u8))++[.t .s])))] 0 svs m n→Fun Tryz.prog aO 4 svs m n (.bool true) [] n:=by
 intro svs m n h
 simp only[yS] at h
 obtain⟨_,_,_,_,_,rfl,rfl,h1,_,_,_,_,_,rfl,rfl,h2,_,_,_,_,_,rfl,rfl,h3,_,_,_,_,_,rfl,rfl,g4,rfl,rfl,rfl⟩:=h
 rw[show (List.replicate 16 (.t (.i .u8)):List LK)=List.replicate 16 (.t (.i .u8))++[] by simp] at h1
 obtain⟨P,vs1,hP,rfl,h1'⟩:=pR 16 h1
 simp only[vX] at h1'
 obtain⟨rfl,rfl,rfl⟩:=h1'
 simp only[vX,jP] at h2
 obtain⟨_,_,e2,⟨y,rfl,_⟩,rfl,rfl,rfl⟩:=h2
 cases e2
 obtain⟨M,s,t,R,S,⟨hR,rs,rt⟩,rfl,rfl,rfl⟩:=hd_of h3
 obtain⟨M',s',t',R',S',⟨hR',rs',rt'⟩,rfl,rfl,rfl⟩:=hd_of g4
 rw[List.append_nil]
 exact h4 P y M s t R S M' s' t' R' S' hP hR hR' rs rt rs' rt'
theorem vers_lifted (os:Os) (started:os.Started) (H:Type) (enc:TypeId × Value→H) (F:Stop.Interp) :
  ReturnsInHanded {} Tryz.checked os 4 .any ((OpenSpec.ofChange Rows.headVerifyMatchesSpecSpec).preRow enc Tryz.prog Tryz.f4 Rows.headVerifyMatchesSpecRow.domain false Rows.headVerifyMatchesSpecRow.laid) (((OpenSpec.ofChange Rows.headVerifyMatchesSpecSpec).at F).post enc Tryz.prog Tryz.f4 false true false false):=by
 obtain⟨places,hx⟩:=vers_reads os enc
 refine returnsInHanded_of_row (C:=Tryz.checked) (s:=OpenSpec.ofChange Rows.headVerifyMatchesSpecSpec) own started (by kernel_rfl) Tryz.func4
  (witness_row_at (enc:=enc) (C:=Tryz.checked) false (dZ os) #[.agg (List.replicate 16 (Value.int .u8 0)).toArray,.int .i64 0,wH,wH] rfl (by kernel_rfl) (by kernel_rfl) (by kernel_rfl)
   (OpenSpec.preRow_of_cond 8 hx (by kernel_rfl) (fun k hk=>by cases hk) (by kernel_rfl) (vers_met os))) ?_
 intro W base args ds gs before hval hW _ _ _ hL _ _
 exact oH (d:=8) (tb:=4) (s:=Rows.headVerifyMatchesSpecSpec) vers_lay rfl (by kernel_rfl) FA vers_spec vers_fun (zK hL) (yD hL) hval hW
theorem vers_said:Rows.HeadVerifyMatchesSpecSaid:=
 OpenClaim.holds_of_cond 4 Tryz.f4 rfl rfl rfl rfl rfl rfl rfl ⟨rfl,rfl,rfl,rfl,rfl⟩ rfl rfl rfl rfl rfl (by kernel_rfl) Tryz.func4 (by kernel_rfl)
  (of_decide_eq_true (by kernel_rfl)) (by unfold Func.isWrapper;first|(rw[if_pos (by decide +kernel)];kernel_rfl)|(rw[if_neg (by decide +kernel)];exact⟨rfl,rfl⟩))
  (fun os started H enc _ F=>by rw[OpenClaim.pre_eq_preRow];exact vers_lifted os started H enc F)
theorem vers_plain (f:FuncId) (fn:Func) (hf:Tryz.pinned.checked.prog.funcNamed Rows.headVerifyMatchesSpecRow.func=some f) (hfn:Tryz.pinned.checked.prog.funcs[f]?=some fn) :
  false=Tryz.pinned.checked.prog.looks []∧∀ (j:Nat) t,fn.params[j]?=some t→Tryz.pinned.checked.prog.wantsStandIn t=false:=by
 obtain rfl:f=4:=Option.some.inj ((show Tryz.prog.funcNamed Rows.headVerifyMatchesSpecRow.func=some 4 by kernel_rfl).symm.trans hf) |>.symm
 obtain rfl:fn=Tryz.f4:=(Option.some.inj (Tryz.func4.symm.trans hfn)).symm
 refine⟨by kernel_rfl,fun j t ht=>?_⟩
 have h:(Tryz.f4.params.toList.all fun t=>!Tryz.prog.wantsStandIn t)=true:=by kernel_rfl
 have:=List.all_eq_true.1 h t (by simpa using Array.mem_of_getElem? ht)
 exact (show Tryz.prog.wantsStandIn t=false by simpa using this)
/-- HeadVerifyMatchesSpec holds of the program -/
theorem vers_card:Rows.HeadVerifyMatchesSpecCardSaid:=
 Claim7.holds_tied_plain_at .later [] _ _ _ _ vers_said (fun _ h=>by cases h) (by kernel_rfl) (fun _ h=>by cases h) headVerifyMatchesSpec_row_tie rfl ⟨rfl,rfl⟩ (by kernel_rfl) rfl vers_plain (by kernel_rfl)
end Go.Proofs.YtmhkkalbijbplaaGreatDoor
