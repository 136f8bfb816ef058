/- The law HeadConsistentMatchesSpec of layer 41, as the statement has it: it holds of the program. -/
import Derived.Test.YtmhkkalbijbplaaGreatDoorVzb
set_option linter.unusedSimpArgs false
set_option linter.unusedVariables false
set_option maxRecDepth 100000
set_option maxHeartbeats 16000000
/- The law HeadConsistentMatchesSpec of layer 41, as the statement has it: it holds of the program. -/
namespace Go.Proofs.YtmhkkalbijbplaaGreatDoor
open Go Go.Sx Go.ChangeShapes Go.WideShapes
/-- a head among the arguments -/
theorem hd_of {n n':Nat} {vs:List SV} {m:bL} (h:vX (.t .s :: .t (.i .i64) :: .t (.i .i64) :: (List.replicate 16 (.t (.i .u8))++[.t .s])) n vs m n') :
  ∃ (M:List UInt8) (s t:Int) (R S:List UInt8),(R.length=16∧kJ s∧kJ t)∧vs=dG M s t R S∧m=[]∧n'=n:=by
 simp only[vX,jP] at h
 obtain⟨_,_,rfl,⟨M,rfl,_⟩,_,_,rfl,⟨s,rfl,hs⟩,_,_,rfl,⟨t,rfl,ht⟩,h⟩:=h
 obtain⟨R,vs1,hR,rfl,h1⟩:=pR 16 h
 simp only[vX,jP] at h1
 obtain⟨_,_,rfl,⟨S,rfl,_⟩,rfl,rfl,rfl⟩:=h1
 exact⟨M,s,t,R,S,⟨hR,iI hs,iI ht⟩,rfl,rfl,rfl⟩
/-- the witness -/
def wH:Value:=.agg (Value.string ⟨#[]⟩ :: .int .i64 0 :: .int .i64 0 :: (List.replicate 16 (Value.int .u8 0)++[Value.string ⟨#[]⟩])).toArray
def wHd {H:Type}:DataW H:=.agg [.lit (.string []),.lit (.int .i64 0),.lit (.int .i64 0),.agg (List.replicate 16 (.lit (.int .u8 0))),.lit (.string [])]
/-- a list of digests among the arguments -/
theorem tags_u8s {ks:List Tag}:∀ (k:Nat) {vs:List SV},i7 (List.replicate k (.i .u8)++ks) vs→∃ (d:List UInt8) (vs':List SV),d.length=k∧vs=aB d++vs'∧i7 ks vs'
 | 0,vs,h=>⟨[],vs,rfl,rfl,h⟩
 | k+1,vs,h=>by
  rw[List.replicate_succ,List.cons_append] at h
  simp only[i7,jP] at h
  obtain⟨v,r,rfl,⟨x,rfl,hx⟩,h⟩:=h
  obtain⟨d,vs',h1,rfl,h2⟩:=tags_u8s k h
  refine⟨UInt8.ofNat x.toNat :: d,vs',by simp[h1],?_,h2⟩
  rw[sM (qU hx)]
  rfl
theorem rows_dig:∀ (len:Nat) {cells:List SV},jG (List.replicate 16 (.i .u8)) len cells→∃ X:List UInt8,X.length=16 * len∧cells=aB X
 | 0,cells,h=>⟨[],rfl,h⟩
 | len+1,cells,h=>by
  obtain⟨r,cs',rfl,hr,h⟩:=h
  obtain⟨X,h1,rfl⟩:=rows_dig len h
  rw[← List.append_nil (List.replicate 16 (Tag.i .u8))] at hr
  obtain⟨d,vs',hd,rfl,hv⟩:=tags_u8s 16 hr
  simp only[i7] at hv
  subst hv
  exact⟨d++X,by rw[List.length_append,hd,h1];omega,by simp[aB]⟩
theorem cons_met (os:Os):laidMet Tryz.prog Rows.headConsistentMatchesSpecRow.laid ((dZ os).forCall (fun _ _=>0) ⟨#[],#[wH,wH,.slice none 0 0],[]⟩).memory:=
 laidMet_of_run' 8 (by kernel_rfl) (by kernel_rfl)
theorem cons_reads (os:Os) {H:Type} (enc:TypeId × Value→H):∃ places,DataW.whole enc Tryz.prog ((dZ os).forCall (fun _ _=>0) ⟨#[],#[wH,wH,.slice none 0 0],[]⟩).memory Tryz.f5.params.toList Rows.headConsistentMatchesSpecSpec.vars false
  (#[wH,wH,.slice none 0 0]:Array Value).toList 8=some ([wHd,wHd,.nil],[],places):=
 ⟨[],by kernel_rfl⟩
theorem cons_lay:oF Tryz.prog 8 Tryz.f5.params.toList=some [(true,(.t .s :: .t (.i .i64) :: .t (.i .i64) :: (List.replicate 16 (.t (.i .u8))++[.t .s]))),(true,(.t .s :: .t (.i .i64) :: .t (.i .i64) :: (List.replicate 16 (.t (.i .u8))++[.t .s]))),(false,[.sl (List.replicate 16 (.i .u8))])]:=by kernel_rfl
theorem cons_spec {H:Type}:∀ ds:List (DataW H),ds.length=Tryz.f5.params.toList.length→(Rows.headConsistentMatchesSpecSpec.fn H ds).results=[.lit (.bool true)]∧(Rows.headConsistentMatchesSpecSpec.fn H ds).args=ds∧(Rows.headConsistentMatchesSpecSpec.fn H ds).vars=[]:=by
 intro ds h
 have e:Tryz.f5.params.toList.length=3:=by kernel_rfl
 rw[e] at h
 match ds,h with
 | [d1,d2,d3],_=>exact⟨rfl,rfl,rfl⟩
theorem cons_fun:∀ svs m n,yS [(true,(.t .s :: .t (.i .i64) :: .t (.i .i64) :: (List.replicate 16 (.t (.i .u8))++[.t .s]))),(true,(.t .s :: .t (.i .i64) :: .t (.i .i64) :: (List.replicate 16 (.t (.i .u8))++[.t .s]))),(false,[.sl (List.replicate 16 (.i .u8))])] 0 svs m n→Fun Tryz.prog aO 5 svs m n (.bool true) [] n:=by
 intro svs m n h
 simp only[yS] at h
 obtain⟨_,_,_,_,_,rfl,rfl,h1,_,_,_,_,_,rfl,rfl,h2,_,_,_,_,_,rfl,rfl,g3,rfl,rfl,rfl⟩:=h
 obtain⟨M,s,t,R,S,⟨hR,hs,ht⟩,rfl,rfl,rfl⟩:=hd_of h1
 obtain⟨M',s',t',R',S',⟨hR',hs',ht'⟩,rfl,rfl,rfl⟩:=hd_of h2
 simp only[vX] at g3
 obtain⟨len,cells,_,_,e2,rfl,hl,hrows,rfl,rfl,rfl⟩:=g3
 cases e2
 obtain⟨X,hX,rfl⟩:=rows_dig _ hrows
 exact h5 M s t R S M' s' t' R' S' X len hR hR' hX
theorem cons_lifted (os:Os) (started:os.Started) (H:Type) (enc:TypeId × Value→H) (F:Stop.Interp) :
  ReturnsInHanded {} Tryz.checked os 5 .any ((OpenSpec.ofChange Rows.headConsistentMatchesSpecSpec).preRow enc Tryz.prog Tryz.f5 Rows.headConsistentMatchesSpecRow.domain false Rows.headConsistentMatchesSpecRow.laid) (((OpenSpec.ofChange Rows.headConsistentMatchesSpecSpec).at F).post enc Tryz.prog Tryz.f5 false true false false):=by
 obtain⟨places,hx⟩:=cons_reads os enc
 refine returnsInHanded_of_row (C:=Tryz.checked) (s:=OpenSpec.ofChange Rows.headConsistentMatchesSpecSpec) own started (by kernel_rfl) Tryz.func5
  (witness_row_at (enc:=enc) (C:=Tryz.checked) false (dZ os) #[wH,wH,.slice none 0 0] rfl (by kernel_rfl) (by kernel_rfl) (by kernel_rfl)
   (OpenSpec.preRow_of_cond 8 hx (by kernel_rfl) (fun k hk=>by cases hk) (by kernel_rfl) (cons_met os))) ?_
 intro W base args ds gs before hval hW _ _ _ hL _ _
 exact oH (d:=8) (tb:=4) (s:=Rows.headConsistentMatchesSpecSpec) cons_lay rfl (by kernel_rfl) FA cons_spec cons_fun (zK hL) (yD hL) hval hW
theorem cons_said:Rows.HeadConsistentMatchesSpecSaid:=
 OpenClaim.holds_of_cond 5 Tryz.f5 rfl rfl rfl rfl rfl rfl rfl ⟨rfl,rfl,rfl,rfl,rfl⟩ rfl rfl rfl rfl rfl (by kernel_rfl) Tryz.func5 (by kernel_rfl)
  (of_decide_eq_true (by kernel_rfl)) (by unfold Func.isWrapper;first|(rw[if_pos (by decide +kernel)];kernel_rfl)|(rw[if_neg (by decide +kernel)];exact⟨rfl,rfl⟩))
  (fun os started H enc _ F=>by rw[OpenClaim.pre_eq_preRow];exact cons_lifted os started H enc F)
theorem cons_plain (f:FuncId) (fn:Func) (hf:Tryz.pinned.checked.prog.funcNamed Rows.headConsistentMatchesSpecRow.func=some f) (hfn:Tryz.pinned.checked.prog.funcs[f]?=some fn) :
  false=Tryz.pinned.checked.prog.looks []∧∀ (j:Nat) t,fn.params[j]?=some t→Tryz.pinned.checked.prog.wantsStandIn t=false:=by
 obtain rfl:f=5:=Option.some.inj ((show Tryz.prog.funcNamed Rows.headConsistentMatchesSpecRow.func=some 5 by kernel_rfl).symm.trans hf) |>.symm
 obtain rfl:fn=Tryz.f5:=(Option.some.inj (Tryz.func5.symm.trans hfn)).symm
 refine⟨by kernel_rfl,fun j t ht=>?_⟩
 have h:(Tryz.f5.params.toList.all fun t=>!Tryz.prog.wantsStandIn t)=true:=by kernel_rfl
 have:=List.all_eq_true.1 h t (by simpa using Array.mem_of_getElem? ht)
 exact (show Tryz.prog.wantsStandIn t=false by simpa using this)
/-- HeadConsistentMatchesSpec holds of the program -/
theorem cons_card:Rows.HeadConsistentMatchesSpecCardSaid:=
 Claim7.holds_tied_plain_at .later [] _ _ _ _ cons_said (fun _ h=>by cases h) (by kernel_rfl) (fun _ h=>by cases h) headConsistentMatchesSpec_row_tie rfl ⟨rfl,rfl⟩ (by kernel_rfl) rfl cons_plain (by kernel_rfl)
end Go.Proofs.YtmhkkalbijbplaaGreatDoor
