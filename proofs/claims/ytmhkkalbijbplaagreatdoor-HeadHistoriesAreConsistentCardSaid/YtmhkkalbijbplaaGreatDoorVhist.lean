/- The law HeadHistoriesAreConsistent of layer 41, as the statement has it: it holds of the program. -/
import Derived.Test.YtmhkkalbijbplaaGreatDoorVzb
set_option linter.unusedSimpArgs false
set_option linter.unusedVariables false
set_option maxRecDepth 100000
set_option maxHeartbeats 16000000
/- The law HeadHistoriesAreConsistent of layer 41, as the statement has it: it holds of the program. -/
namespace Go.Proofs.YtmhkkalbijbplaaGreatDoor
open Go Go.Sx Go.ChangeShapes Go.WideShapes
/-- a head among the arguments -/
theorem hd_of {n n':Nat} {vs:List SV} {m:bL} (h:vX (.t .s :: .t (.i .i64) :: .t (.i .i64) :: (List.replicate 16 (.t (.i .u8))++[.t .s])) n vs m n') :
  ∃ (M:List UInt8) (s t:Int) (R S:List UInt8),(R.length=16∧kJ s∧kJ t)∧vs=dG M s t R S∧m=[]∧n'=n:=by
 simp only[vX,jP] at h
 obtain⟨_,_,rfl,⟨M,rfl,_⟩,_,_,rfl,⟨s,rfl,hs⟩,_,_,rfl,⟨t,rfl,ht⟩,h⟩:=h
 obtain⟨R,vs1,hR,rfl,h1⟩:=pR 16 h
 simp only[vX,jP] at h1
 obtain⟨_,_,rfl,⟨S,rfl,_⟩,rfl,rfl,rfl⟩:=h1
 exact⟨M,s,t,R,S,⟨hR,iI hs,iI ht⟩,rfl,rfl,rfl⟩
/-- the witness -/
def wH:Value:=.agg (Value.string ⟨#[]⟩ :: .int .i64 0 :: .int .i64 0 :: (List.replicate 16 (Value.int .u8 0)++[Value.string ⟨#[]⟩])).toArray
def wHd {H:Type}:DataW H:=.agg [.lit (.string []),.lit (.int .i64 0),.lit (.int .i64 0),.agg (List.replicate 16 (.lit (.int .u8 0))),.lit (.string [])]
/-- a list of digests among the arguments -/
theorem tags_u8s {ks:List Tag}:∀ (k:Nat) {vs:List SV},i7 (List.replicate k (.i .u8)++ks) vs→∃ (d:List UInt8) (vs':List SV),d.length=k∧vs=aB d++vs'∧i7 ks vs'
 | 0,vs,h=>⟨[],vs,rfl,rfl,h⟩
 | k+1,vs,h=>by
  rw[List.replicate_succ,List.cons_append] at h
  simp only[i7,jP] at h
  obtain⟨v,r,rfl,⟨x,rfl,hx⟩,h⟩:=h
  obtain⟨d,vs',h1,rfl,h2⟩:=tags_u8s k h
  refine⟨UInt8.ofNat x.toNat :: d,vs',by simp[h1],?_,h2⟩
  rw[sM (qU hx)]
  rfl
theorem rows_dig:∀ (len:Nat) {cells:List SV},jG (List.replicate 16 (.i .u8)) len cells→∃ X:List UInt8,X.length=16 * len∧cells=aB X
 | 0,cells,h=>⟨[],rfl,h⟩
 | len+1,cells,h=>by
  obtain⟨r,cs',rfl,hr,h⟩:=h
  obtain⟨X,h1,rfl⟩:=rows_dig len h
  rw[← List.append_nil (List.replicate 16 (Tag.i .u8))] at hr
  obtain⟨d,vs',hd,rfl,hv⟩:=tags_u8s 16 hr
  simp only[i7] at hv
  subst hv
  exact⟨d++X,by rw[List.length_append,hd,h1];omega,by simp[aB]⟩
theorem u16_range {n:Int} (h:(Lit.int .u16 n).wf=true):0≤n∧n < 65536:=by
 simp[Lit.wf,IntKind.min,IntKind.max,IntKind.signed,IntKind.bits] at h;omega
theorem hist_met (os:Os):laidMet Tryz.prog Rows.headHistoriesAreConsistentRow.laid ((dZ os).forCall (fun _ _=>0) ⟨#[],#[.slice none 0 0,.int .u8 0,.agg #[.int .u16 0,.int .u16 0],.agg (List.replicate 16 (Value.int .u8 0)).toArray,.slice none 0 0],[]⟩).memory:=
 laidMet_of_run' 8 (by kernel_rfl) (by kernel_rfl)
theorem hist_reads (os:Os) {H:Type} (enc:TypeId × Value→H):∃ places,DataW.whole enc Tryz.prog ((dZ os).forCall (fun _ _=>0) ⟨#[],#[.slice none 0 0,.int .u8 0,.agg #[.int .u16 0,.int .u16 0],.agg (List.replicate 16 (Value.int .u8 0)).toArray,.slice none 0 0],[]⟩).memory Tryz.f8.params.toList Rows.headHistoriesAreConsistentSpec.vars false
  (#[.slice none 0 0,.int .u8 0,.agg #[.int .u16 0,.int .u16 0],.agg (List.replicate 16 (Value.int .u8 0)).toArray,.slice none 0 0]:Array Value).toList 8=some ([.nil,.lit (.int .u8 0),.agg [.lit (.int .u16 0),.lit (.int .u16 0)],.agg (List.replicate 16 (.lit (.int .u8 0))),.nil],[],places):=
 ⟨[],by kernel_rfl⟩
theorem hist_lay:oF Tryz.prog 8 Tryz.f8.params.toList=some [(false,[.sl (List.replicate 16 (.i .u8))]),(false,[.t (.i .u8)]),(true,[.t (.i .u16),.t (.i .u16)]),(true,List.replicate 16 (.t (.i .u8))),(false,[.sl (List.replicate 16 (.i .u8))])]:=by kernel_rfl
theorem hist_spec {H:Type}:∀ ds:List (DataW H),ds.length=Tryz.f8.params.toList.length→(Rows.headHistoriesAreConsistentSpec.fn H ds).results=[.lit (.bool true)]∧(Rows.headHistoriesAreConsistentSpec.fn H ds).args=ds∧(Rows.headHistoriesAreConsistentSpec.fn H ds).vars=[]:=by
 intro ds h
 have e:Tryz.f8.params.toList.length=5:=by kernel_rfl
 rw[e] at h
 match ds,h with
 | [d1,d2,d3,d4,d5],_=>exact⟨rfl,rfl,rfl⟩
theorem hist_fun:∀ svs m n,yS [(false,[.sl (List.replicate 16 (.i .u8))]),(false,[.t (.i .u8)]),(true,[.t (.i .u16),.t (.i .u16)]),(true,List.replicate 16 (.t (.i .u8))),(false,[.sl (List.replicate 16 (.i .u8))])] 0 svs m n→Fun Tryz.prog aO 8 svs m n (.bool true) [] n:=by
 intro svs m n h
 simp only[yS] at h
 obtain⟨_,_,_,_,_,rfl,rfl,h1,_,_,_,_,_,rfl,rfl,h2,_,_,_,_,_,rfl,rfl,h3,_,_,_,_,_,rfl,rfl,g4,_,_,_,_,_,rfl,rfl,g5,rfl,rfl,rfl⟩:=h
 simp only[vX,jP] at h1 h2 h3 g5
 obtain⟨len,cells,_,_,e1,rfl,hl,hrows,rfl,rfl,rfl⟩:=h1
 cases e1
 obtain⟨X,hX,rfl⟩:=rows_dig _ hrows
 obtain⟨_,_,e2,⟨x,rfl,hx⟩,rfl,rfl,rfl⟩:=h2
 cases e2
 obtain⟨_,_,rfl,⟨a,rfl,ha⟩,_,_,rfl,⟨b,rfl,hb⟩,rfl,rfl,rfl⟩:=h3
 rw[show (List.replicate 16 (.t (.i .u8)):List LK)=List.replicate 16 (.t (.i .u8))++[] by simp] at g4
 obtain⟨O,vs1,hO,rfl,h1'⟩:=pR 16 g4
 simp only[vX] at h1'
 obtain⟨rfl,rfl,rfl⟩:=h1'
 obtain⟨len',cells',_,_,e5,rfl,hl',hrows',rfl,rfl,rfl⟩:=g5
 cases e5
 obtain⟨Q,hQ,rfl⟩:=rows_dig _ hrows'
 obtain⟨x0,x1⟩:=qU hx
 obtain⟨a0,a1⟩:=u16_range ha
 obtain⟨b0,b1⟩:=u16_range hb
 obtain⟨x,rfl⟩:=Int.eq_ofNat_of_zero_le x0
 obtain⟨a,rfl⟩:=Int.eq_ofNat_of_zero_le a0
 obtain⟨b,rfl⟩:=Int.eq_ofNat_of_zero_le b0
 rw[List.append_nil]
 exact h8 X Q O len len' x a b hX hQ hO (by omega) (by omega) (by omega)
theorem hist_lifted (os:Os) (started:os.Started) (H:Type) (enc:TypeId × Value→H) (F:Stop.Interp) :
  ReturnsInHanded {} Tryz.checked os 8 .any ((OpenSpec.ofChange Rows.headHistoriesAreConsistentSpec).preRow enc Tryz.prog Tryz.f8 Rows.headHistoriesAreConsistentRow.domain false Rows.headHistoriesAreConsistentRow.laid) (((OpenSpec.ofChange Rows.headHistoriesAreConsistentSpec).at F).post enc Tryz.prog Tryz.f8 false true false false):=by
 obtain⟨places,hx⟩:=hist_reads os enc
 refine returnsInHanded_of_row (C:=Tryz.checked) (s:=OpenSpec.ofChange Rows.headHistoriesAreConsistentSpec) own started (by kernel_rfl) Tryz.func8
  (witness_row_at (enc:=enc) (C:=Tryz.checked) false (dZ os) #[.slice none 0 0,.int .u8 0,.agg #[.int .u16 0,.int .u16 0],.agg (List.replicate 16 (Value.int .u8 0)).toArray,.slice none 0 0] rfl (by kernel_rfl) (by kernel_rfl) (by kernel_rfl)
   (OpenSpec.preRow_of_cond 8 hx (by kernel_rfl) (fun k hk=>by cases hk) (by kernel_rfl) (hist_met os))) ?_
 intro W base args ds gs before hval hW _ _ _ hL _ _
 exact oH (d:=8) (tb:=4) (s:=Rows.headHistoriesAreConsistentSpec) hist_lay rfl (by kernel_rfl) FA hist_spec hist_fun (zK hL) (yD hL) hval hW
theorem hist_said:Rows.HeadHistoriesAreConsistentSaid:=
 OpenClaim.holds_of_cond 8 Tryz.f8 rfl rfl rfl rfl rfl rfl rfl ⟨rfl,rfl,rfl,rfl,rfl⟩ rfl rfl rfl rfl rfl (by kernel_rfl) Tryz.func8 (by kernel_rfl)
  (of_decide_eq_true (by kernel_rfl)) (by unfold Func.isWrapper;first|(rw[if_pos (by decide +kernel)];kernel_rfl)|(rw[if_neg (by decide +kernel)];exact⟨rfl,rfl⟩))
  (fun os started H enc _ F=>by rw[OpenClaim.pre_eq_preRow];exact hist_lifted os started H enc F)
theorem hist_plain (f:FuncId) (fn:Func) (hf:Tryz.pinned.checked.prog.funcNamed Rows.headHistoriesAreConsistentRow.func=some f) (hfn:Tryz.pinned.checked.prog.funcs[f]?=some fn) :
  false=Tryz.pinned.checked.prog.looks []∧∀ (j:Nat) t,fn.params[j]?=some t→Tryz.pinned.checked.prog.wantsStandIn t=false:=by
 obtain rfl:f=8:=Option.some.inj ((show Tryz.prog.funcNamed Rows.headHistoriesAreConsistentRow.func=some 8 by kernel_rfl).symm.trans hf) |>.symm
 obtain rfl:fn=Tryz.f8:=(Option.some.inj (Tryz.func8.symm.trans hfn)).symm
 refine⟨by kernel_rfl,fun j t ht=>?_⟩
 have h:(Tryz.f8.params.toList.all fun t=>!Tryz.prog.wantsStandIn t)=true:=by kernel_rfl
 have:=List.all_eq_true.1 h t (by simpa using Array.mem_of_getElem? ht)
 exact (show Tryz.prog.wantsStandIn t=false by simpa using this)
/-- HeadHistoriesAreConsistent holds of the program -/
theorem hist_card:Rows.HeadHistoriesAreConsistentCardSaid:=
 Claim7.holds_tied_plain_at .later [] _ _ _ _ hist_said (fun _ h=>by cases h) (by kernel_rfl) (fun _ h=>by cases h) headHistoriesAreConsistent_row_tie rfl ⟨rfl,rfl⟩ (by kernel_rfl) rfl hist_plain (by kernel_rfl)
end Go.Proofs.YtmhkkalbijbplaaGreatDoor
